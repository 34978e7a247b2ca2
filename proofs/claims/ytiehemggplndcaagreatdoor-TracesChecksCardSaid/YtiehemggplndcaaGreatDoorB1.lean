/-
  Contracts of three loops over all pages; what the executor knows of the manager's types and variables. Definitions alone; nothing here speaks of a program.
-/
import Derived.Test.YtiehemggplndcaaGreatDoorA4
import Derived.Lib.ItoaLen
import Derived.Lib.ItoaMem
import Derived.Lib.SplitLaws
import Derived.Lib.ParseIntBTie
import Derived.Lib.ParseIntBCases
namespace Go.Mg
open Go Go.Sx
def v (i : Nat) : E := .var i
def i64 (e : E) : AV := .int .i64 e
def eLe (a b : E) : PE := .tt (.bin .le a b)
def pgK : List CK := .int .i64 :: .bool :: List.replicate 64 (.int .u8)
def bgs : List Big := [⟨253, 1, pgK, 1024⟩, ⟨259, 2, [.int .u64], 352⟩, ⟨541, 0, [.int .u64], 1024⟩, ⟨242, 5, [.int .i64], 1024⟩]
def qqE : List Int := [0, 1, 56, 2, 57, 49, 28, 3, 61, 58, 42, 50, 38, 29, 17, 4, 62, 47, 59, 36, 45, 43, 51, 22, 53, 39, 33, 30, 24, 18, 12, 5, 63, 55, 48, 27, 60, 41, 37, 16, 46, 35, 44, 21, 52, 32, 23, 11, 54, 26, 40, 15, 34, 20, 31, 10, 25, 14, 19, 9, 13, 8, 7, 6]
def qq0 : List Int := [0, 1, 28, 2, 29, 14, 24, 3, 30, 22, 20, 15, 25, 17, 4, 8, 31, 27, 13, 23, 21, 19, 16, 7, 26, 12, 18, 6, 11, 5, 10, 9]
def TU : List Int := [1, 10, 100, 1000, 10000, 100000, 1000000, 10000000, 100000000, 1000000000, 10000000000, 100000000000, 1000000000000, 10000000000000, 100000000000000, 1000000000000000, 10000000000000000, 100000000000000000, 1000000000000000000, 10000000000000000000]
def gls : List Glob := [{ g := 5, k := .int .u8, l := qqE }, { g := 4, k := .int .u8, l := qq0 }, { g := 1, k := .int .u64, l := TU, full := true }, { g := 0, k := .int .i64, l := [], ity := true }, { g := 2, k := .int .i64, l := [], ifc := true }, { g := 3, k := .int .i64, l := [], ifc := true }]
def kn : Kn := { eu := bgs, globs := gls }
def c0 : Contract where
 fn := 0
 sorts := []
 args := []
 mem := []
 nb := 0
 pre := []
 outs := []
 res := .tup []
 mods := []
 fresh := []
 post := []
def Qw : Contract := { c0 with fn := 282, sorts := [true], args := [.ptr 0 (.lit 0) 0 0], mem := [(0, .big [.bool (.lit 1)] pgK (v 0) 1024 [] false)], nb := 1, pre := [.col (v 0) 0 0 3], outs := [false, false, false, false, false], res := .tup [.agg [i64 (v 1), i64 (v 2), i64 (v 3), i64 (v 4), i64 (v 5)], i64 (.lit 0)] }
def qqH : Ann where
 fn := 282
 bid := 0
 keep := [5, 4, 2, 0]
 tmps := [(16, i64 (v 6))]
 drop := []
 mem := [(2, .cells [i64 (v 1), i64 (v 2), i64 (v 3), i64 (v 4), i64 (v 5)] true)]
 sorts := [false, false, false, false, false, false]
 nbl := 0
 inv := [eLe (.lit 0) (v 6), eLe (v 6) (.lit 1024), eLe (.lit 0) (v 1), eLe (v 1) (v 6), eLe (.lit 0) (v 2), eLe (v 2) (v 6), eLe (.lit 0) (v 3), eLe (v 3) (v 6), eLe (.lit 0) (v 4), eLe (v 4) (v 6), eLe (.lit 0) (v 5), eLe (v 5) (v 6)]
 meas := .bin .sub (.lit 1024) (v 6)
def yY (q : Nat) : Contract := { c0 with fn := 277, sorts := [true], args := [.any, .ptr 0 (.lit 0) 0 0], mem := [(0, .cells [.ptr 1 (.lit 0) 0 (2 + 16 * q)] false), (1, .big [.any, .any] [.int .u64] (v 0) 352 [] false)], nb := 2, pre := (List.range 16).map fun i => .ff (.sel (v 0) (.lit ((16 * q + i : Nat) : Int)) 0) }
def qb5 : Ann where
 fn := 277
 bid := 0
 keep := [0, 1]
 tmps := [(4, i64 (v 1))]
 drop := []
 mem := []
 sorts := [false]
 nbl := 0
 inv := [eLe (.lit 0) (v 1), eLe (v 1) (.lit 1024)]
 meas := .bin .sub (.lit 1024) (v 1)
def XW : Contract := { c0 with fn := 335, sorts := [true], args := [.ptr 0 (.lit 0) 0 0], mem := [(0, .big [] [.int .u64] (v 0) 1024 [] false)], nb := 1, pre := [.col (v 0) 0 0 0], res := .agg [.qz] }
def qyn : Ann where
 fn := 335
 bid := 0
 keep := [6, 3, 2, 0]
 tmps := [(7, i64 (v 1))]
 drop := []
 mem := []
 sorts := [false]
 nbl := 0
 inv := [eLe (.lit 0) (v 1), eLe (v 1) (.lit 1024)]
 meas := .bin .sub (.lit 1024) (v 1)
def k5 : List CK := [.int .i64, .int .i64, .int .i64, .int .i64, .int .i64]
def k3 : List CK := [.int .i64, .int .i64, .int .i64]
def XG : Contract := { c0 with fn := 169, args := [i64 (.lit 1024), i64 (.lit 1)], res := .ptr 0 (.lit 0) 0 0, fresh := [(0, .cells [.slice 1 (.lit 0) (.lit 1024) 5 false, .slice 2 (.lit 0) (.lit 1) 3 false, i64 (.lit 0)] true), (1, .rows k5 (.kt [0, 0, -1, -1, -1]) (.lit 1024) true false), (2, .rows k3 (.kt [-1, -1, 0]) (.lit 1) true false)] }
def qqF : Ann where
 fn := 169
 bid := 0
 keep := [5, 18]
 tmps := [(19, i64 (v 1))]
 drop := []
 mem := [(0, .rows k5 (v 0) (.lit 1024) true false)]
 sorts := [true, false]
 nbl := 0
 inv := [eLe (.lit 0) (v 1), eLe (v 1) (.lit 1024), .agr (v 0) (.kt [0, 0, -1, -1, -1]) (v 1) 5]
 meas := .bin .sub (.lit 1024) (v 1)
def XK : Contract := { c0 with fn := 100, args := [.agg [.qz]], res := .tup [.ptr 0 (.lit 0) 0 0, i64 (.lit 0)], fresh := [(0, .big [.bool (.lit 1)] pgK .zt 1024 (.qz :: List.replicate 14 (i64 (.lit 0))) true)] }
def jJ (P : Program) : Cx := { P, cs := [], jr := [qqH, qb5, qyn, qqF], kn := kn }
def loops : List Contract := [Qw, XW, XG, XK, yY 3, yY 4, yY 5, yY 6, yY 7, yY 8, yY 9]
end Go.Mg
namespace Go.Mg
open Go Go.Sx
def ν (n : Nat) : E := .var n
def κ (n : Int) : E := .lit n
def ο : E := .lit 0
def γ (a b : E) : PE := .tt (.bin .le a b)
def ω (a b : E) : PE := .tt (.bin .lt a b)
def ρ (a : E) : PE := .rng .i64 a
def χ (a b : E) : E := .bin .eq a b
def π (a b : E) : E := .bin .add a b
def δ (a b : E) : E := .bin .sub a b
def ξ (t r : E) (c : Nat) : E := .sel t r c
def α (p : PE) (t : Tree) : Tree := .assert p t
def μ (p : PE) (t : Tree) : Tree := .assume p t
def β (e : E) (a b : Tree) : Tree := .branch e a b
def η (t : Tree) : Tree := .yQ false t
def τ (t : Tree) : Tree := .yQ true t
def WV : Tree := (μ (.col (ν 0) 0 0 3) (η (η (η (η (η (η (μ (γ ο (ν 6)) (μ (γ (ν 6) (κ 1024)) (μ (γ ο (ν 1)) (μ (γ (ν 1) (ν 6)) (μ (γ ο (ν 2)) (μ (γ (ν 2) (ν 6)) (μ (γ ο (ν 3)) (μ (γ (ν 3) (ν 6)) (μ (γ ο (ν 4)) (μ (γ (ν 4) (ν 6)) (μ (γ ο (ν 5)) (μ (γ (ν 5) (ν 6)) (β (.bin .lt (ν 6) (κ 1024)) (β (χ (ξ (ν 0) (ν 6) 0) (κ 3)) (α (ρ (π (ν 4) (κ 1))) (β (ξ (ν 0) (ν 6) 1) (β (χ (.bin .tmod (ν 6) (κ 16)) ο) (α (ρ (π (ν 5) (κ 1))) (α (ρ (π (ν 6) (κ 1))) (α (γ ο (π (ν 6) (κ 1))) (α (γ (π (ν 6) (κ 1)) (κ 1024)) (α (γ (ν 1) (π (ν 6) (κ 1))) (α (γ (ν 2) (π (ν 6) (κ 1))) (α (γ (ν 3) (π (ν 6) (κ 1))) (α (γ ο (π (ν 4) (κ 1))) (α (γ (π (ν 4) (κ 1)) (π (ν 6) (κ 1))) (α (γ ο (π (ν 5) (κ 1))) (α (γ (π (ν 5) (κ 1)) (π (ν 6) (κ 1))) (α (γ ο (δ (κ 1024) (π (ν 6) (κ 1)))) (α (ω (δ (κ 1024) (π (ν 6) (κ 1))) (δ (κ 1024) (ν 6))) .ok))))))))))))) (α (ρ (π (ν 6) (κ 1))) (α (γ ο (π (ν 6) (κ 1))) (α (γ (π (ν 6) (κ 1)) (κ 1024)) (α (γ (ν 1) (π (ν 6) (κ 1))) (α (γ (ν 2) (π (ν 6) (κ 1))) (α (γ (ν 3) (π (ν 6) (κ 1))) (α (γ ο (π (ν 4) (κ 1))) (α (γ (π (ν 4) (κ 1)) (π (ν 6) (κ 1))) (α (γ (ν 5) (π (ν 6) (κ 1))) (α (γ ο (δ (κ 1024) (π (ν 6) (κ 1)))) (α (ω (δ (κ 1024) (π (ν 6) (κ 1))) (δ (κ 1024) (ν 6))) .ok)))))))))))) (α (ρ (π (ν 6) (κ 1))) (α (γ ο (π (ν 6) (κ 1))) (α (γ (π (ν 6) (κ 1)) (κ 1024)) (α (γ (ν 1) (π (ν 6) (κ 1))) (α (γ (ν 2) (π (ν 6) (κ 1))) (α (γ (ν 3) (π (ν 6) (κ 1))) (α (γ ο (π (ν 4) (κ 1))) (α (γ (π (ν 4) (κ 1)) (π (ν 6) (κ 1))) (α (γ (ν 5) (π (ν 6) (κ 1))) (α (γ ο (δ (κ 1024) (π (ν 6) (κ 1)))) (α (ω (δ (κ 1024) (π (ν 6) (κ 1))) (δ (κ 1024) (ν 6))) .ok))))))))))))) (β (χ (ξ (ν 0) (ν 6) 0) (κ 2)) (α (ρ (π (ν 3) (κ 1))) (β (ξ (ν 0) (ν 6) 1) (β (χ (.bin .tmod (ν 6) (κ 16)) ο) (α (ρ (π (ν 5) (κ 1))) (α (ρ (π (ν 6) (κ 1))) (α (γ ο (π (ν 6) (κ 1))) (α (γ (π (ν 6) (κ 1)) (κ 1024)) (α (γ (ν 1) (π (ν 6) (κ 1))) (α (γ (ν 2) (π (ν 6) (κ 1))) (α (γ ο (π (ν 3) (κ 1))) (α (γ (π (ν 3) (κ 1)) (π (ν 6) (κ 1))) (α (γ (ν 4) (π (ν 6) (κ 1))) (α (γ ο (π (ν 5) (κ 1))) (α (γ (π (ν 5) (κ 1)) (π (ν 6) (κ 1))) (α (γ ο (δ (κ 1024) (π (ν 6) (κ 1)))) (α (ω (δ (κ 1024) (π (ν 6) (κ 1))) (δ (κ 1024) (ν 6))) .ok))))))))))))) (α (ρ (π (ν 6) (κ 1))) (α (γ ο (π (ν 6) (κ 1))) (α (γ (π (ν 6) (κ 1)) (κ 1024)) (α (γ (ν 1) (π (ν 6) (κ 1))) (α (γ (ν 2) (π (ν 6) (κ 1))) (α (γ ο (π (ν 3) (κ 1))) (α (γ (π (ν 3) (κ 1)) (π (ν 6) (κ 1))) (α (γ (ν 4) (π (ν 6) (κ 1))) (α (γ (ν 5) (π (ν 6) (κ 1))) (α (γ ο (δ (κ 1024) (π (ν 6) (κ 1)))) (α (ω (δ (κ 1024) (π (ν 6) (κ 1))) (δ (κ 1024) (ν 6))) .ok)))))))))))) (α (ρ (π (ν 6) (κ 1))) (α (γ ο (π (ν 6) (κ 1))) (α (γ (π (ν 6) (κ 1)) (κ 1024)) (α (γ (ν 1) (π (ν 6) (κ 1))) (α (γ (ν 2) (π (ν 6) (κ 1))) (α (γ ο (π (ν 3) (κ 1))) (α (γ (π (ν 3) (κ 1)) (π (ν 6) (κ 1))) (α (γ (ν 4) (π (ν 6) (κ 1))) (α (γ (ν 5) (π (ν 6) (κ 1))) (α (γ ο (δ (κ 1024) (π (ν 6) (κ 1)))) (α (ω (δ (κ 1024) (π (ν 6) (κ 1))) (δ (κ 1024) (ν 6))) .ok))))))))))))) (β (χ (ξ (ν 0) (ν 6) 0) (κ 1)) (α (ρ (π (ν 2) (κ 1))) (β (ξ (ν 0) (ν 6) 1) (β (χ (.bin .tmod (ν 6) (κ 16)) ο) (α (ρ (π (ν 5) (κ 1))) (α (ρ (π (ν 6) (κ 1))) (α (γ ο (π (ν 6) (κ 1))) (α (γ (π (ν 6) (κ 1)) (κ 1024)) (α (γ (ν 1) (π (ν 6) (κ 1))) (α (γ ο (π (ν 2) (κ 1))) (α (γ (π (ν 2) (κ 1)) (π (ν 6) (κ 1))) (α (γ (ν 3) (π (ν 6) (κ 1))) (α (γ (ν 4) (π (ν 6) (κ 1))) (α (γ ο (π (ν 5) (κ 1))) (α (γ (π (ν 5) (κ 1)) (π (ν 6) (κ 1))) (α (γ ο (δ (κ 1024) (π (ν 6) (κ 1)))) (α (ω (δ (κ 1024) (π (ν 6) (κ 1))) (δ (κ 1024) (ν 6))) .ok))))))))))))) (α (ρ (π (ν 6) (κ 1))) (α (γ ο (π (ν 6) (κ 1))) (α (γ (π (ν 6) (κ 1)) (κ 1024)) (α (γ (ν 1) (π (ν 6) (κ 1))) (α (γ ο (π (ν 2) (κ 1))) (α (γ (π (ν 2) (κ 1)) (π (ν 6) (κ 1))) (α (γ (ν 3) (π (ν 6) (κ 1))) (α (γ (ν 4) (π (ν 6) (κ 1))) (α (γ (ν 5) (π (ν 6) (κ 1))) (α (γ ο (δ (κ 1024) (π (ν 6) (κ 1)))) (α (ω (δ (κ 1024) (π (ν 6) (κ 1))) (δ (κ 1024) (ν 6))) .ok)))))))))))) (α (ρ (π (ν 6) (κ 1))) (α (γ ο (π (ν 6) (κ 1))) (α (γ (π (ν 6) (κ 1)) (κ 1024)) (α (γ (ν 1) (π (ν 6) (κ 1))) (α (γ ο (π (ν 2) (κ 1))) (α (γ (π (ν 2) (κ 1)) (π (ν 6) (κ 1))) (α (γ (ν 3) (π (ν 6) (κ 1))) (α (γ (ν 4) (π (ν 6) (κ 1))) (α (γ (ν 5) (π (ν 6) (κ 1))) (α (γ ο (δ (κ 1024) (π (ν 6) (κ 1)))) (α (ω (δ (κ 1024) (π (ν 6) (κ 1))) (δ (κ 1024) (ν 6))) .ok))))))))))))) (β (χ (ξ (ν 0) (ν 6) 0) ο) (α (ρ (π (ν 1) (κ 1))) (β (ξ (ν 0) (ν 6) 1) (β (χ (.bin .tmod (ν 6) (κ 16)) ο) (α (ρ (π (ν 5) (κ 1))) (α (ρ (π (ν 6) (κ 1))) (α (γ ο (π (ν 6) (κ 1))) (α (γ (π (ν 6) (κ 1)) (κ 1024)) (α (γ ο (π (ν 1) (κ 1))) (α (γ (π (ν 1) (κ 1)) (π (ν 6) (κ 1))) (α (γ (ν 2) (π (ν 6) (κ 1))) (α (γ (ν 3) (π (ν 6) (κ 1))) (α (γ (ν 4) (π (ν 6) (κ 1))) (α (γ ο (π (ν 5) (κ 1))) (α (γ (π (ν 5) (κ 1)) (π (ν 6) (κ 1))) (α (γ ο (δ (κ 1024) (π (ν 6) (κ 1)))) (α (ω (δ (κ 1024) (π (ν 6) (κ 1))) (δ (κ 1024) (ν 6))) .ok))))))))))))) (α (ρ (π (ν 6) (κ 1))) (α (γ ο (π (ν 6) (κ 1))) (α (γ (π (ν 6) (κ 1)) (κ 1024)) (α (γ ο (π (ν 1) (κ 1))) (α (γ (π (ν 1) (κ 1)) (π (ν 6) (κ 1))) (α (γ (ν 2) (π (ν 6) (κ 1))) (α (γ (ν 3) (π (ν 6) (κ 1))) (α (γ (ν 4) (π (ν 6) (κ 1))) (α (γ (ν 5) (π (ν 6) (κ 1))) (α (γ ο (δ (κ 1024) (π (ν 6) (κ 1)))) (α (ω (δ (κ 1024) (π (ν 6) (κ 1))) (δ (κ 1024) (ν 6))) .ok)))))))))))) (α (ρ (π (ν 6) (κ 1))) (α (γ ο (π (ν 6) (κ 1))) (α (γ (π (ν 6) (κ 1)) (κ 1024)) (α (γ ο (π (ν 1) (κ 1))) (α (γ (π (ν 1) (κ 1)) (π (ν 6) (κ 1))) (α (γ (ν 2) (π (ν 6) (κ 1))) (α (γ (ν 3) (π (ν 6) (κ 1))) (α (γ (ν 4) (π (ν 6) (κ 1))) (α (γ (ν 5) (π (ν 6) (κ 1))) (α (γ ο (δ (κ 1024) (π (ν 6) (κ 1)))) (α (ω (δ (κ 1024) (π (ν 6) (κ 1))) (δ (κ 1024) (ν 6))) .ok))))))))))))) (.fail 29))))) .ok))))))))))))))))))))
def BR : Tree := (μ (.col (ν 0) 0 0 0) (η (μ (γ ο (ν 1)) (μ (γ (ν 1) (κ 1024)) (β (.bin .lt (ν 1) (κ 1024)) (β (χ (χ (ξ (ν 0) (ν 1) 0) ο) ο) (β (χ (χ (.bin (.bits 5 .u64) (ξ (ν 0) (ν 1) 0) ο) ο) ο) (.fail 20) (α (ρ (π (ν 1) (κ 1))) (.fail 61))) (α (ρ (π (ν 1) (κ 1))) (α (γ ο (π (ν 1) (κ 1))) (α (γ (π (ν 1) (κ 1)) (κ 1024)) (α (γ ο (δ (κ 1024) (π (ν 1) (κ 1)))) (α (ω (δ (κ 1024) (π (ν 1) (κ 1))) (δ (κ 1024) (ν 1))) .ok)))))) .ok)))))
def Dz : Tree := (α (.agr .zt (.kt [0, 0, (-1), (-1), (-1)]) ο 5) (τ (η (μ (γ ο (ν 1)) (μ (γ (ν 1) (κ 1024)) (μ (.agr (ν 0) (.kt [0, 0, (-1), (-1), (-1)]) (ν 1) 5) (β (.bin .lt (ν 1) (κ 1024)) (α (ρ (π (ν 1) (κ 1))) (α (γ ο (π (ν 1) (κ 1))) (α (γ (π (ν 1) (κ 1)) (κ 1024)) (α (.agr (.upd (.upd (.upd (.upd (.upd (ν 0) (ν 1) 0 ο) (ν 1) 1 ο) (ν 1) 2 (κ (-1))) (ν 1) 3 (κ (-1))) (ν 1) 4 (κ (-1))) (.kt [0, 0, (-1), (-1), (-1)]) (π (ν 1) (κ 1)) 5) (α (γ ο (δ (κ 1024) (π (ν 1) (κ 1)))) (α (ω (δ (κ 1024) (π (ν 1) (κ 1))) (δ (κ 1024) (ν 1))) .ok)))))) (α (.agr (.kt [0, 0, (-1), (-1), (-1)]) (ν 0) (κ 1024) 5) (α (.agr (.kt [(-1), (-1), 0]) (.upd (.upd .zt ο 0 (κ (-1))) ο 1 (κ (-1))) (κ 1) 3) .ok)))))))))
def SY : Tree := .ok
def WG (c : Int) : Tree := (μ (.ff (ξ (ν 0) (κ c) 0)) (μ (.ff (ξ (ν 0) (κ (c + 1)) 0)) (μ (.ff (ξ (ν 0) (κ (c + 2)) 0)) (μ (.ff (ξ (ν 0) (κ (c + 3)) 0)) (μ (.ff (ξ (ν 0) (κ (c + 4)) 0)) (μ (.ff (ξ (ν 0) (κ (c + 5)) 0)) (μ (.ff (ξ (ν 0) (κ (c + 6)) 0)) (μ (.ff (ξ (ν 0) (κ (c + 7)) 0)) (μ (.ff (ξ (ν 0) (κ (c + 8)) 0)) (μ (.ff (ξ (ν 0) (κ (c + 9)) 0)) (μ (.ff (ξ (ν 0) (κ (c + 10)) 0)) (μ (.ff (ξ (ν 0) (κ (c + 11)) 0)) (μ (.ff (ξ (ν 0) (κ (c + 12)) 0)) (μ (.ff (ξ (ν 0) (κ (c + 13)) 0)) (μ (.ff (ξ (ν 0) (κ (c + 14)) 0)) (μ (.ff (ξ (ν 0) (κ (c + 15)) 0)) (η (μ (γ ο (ν 1)) (μ (γ (ν 1) (κ 1024)) (β (.bin .lt (ν 1) (κ 1024)) (α (γ ο (.bin (.bits 6 .i64) (ν 1) (κ 64))) (α (ω (.bin (.bits 6 .i64) (ν 1) (κ 64)) (κ 16)) (α (γ ο (π (.bin (.bits 6 .i64) (ν 1) (κ 64)) (κ c))) (α (ω (π (.bin (.bits 6 .i64) (ν 1) (κ 64)) (κ c)) (κ 352)) (α (γ ο (.bin .tmod (ν 1) (κ 64))) (β (χ (.bin (.bits 0 .u64) (.bin (.bits 5 .u64) (ξ (ν 0) (π (.bin (.bits 6 .i64) (ν 1) (κ 64)) (κ c)) 0) (.bin .tmod (ν 1) (κ 64))) (κ 1)) (κ 1)) (.fail 20) (α (ρ (π (ν 1) (κ 1))) (α (γ ο (π (ν 1) (κ 1))) (α (γ (π (ν 1) (κ 1)) (κ 1024)) (α (γ ο (δ (κ 1024) (π (ν 1) (κ 1)))) (α (ω (δ (κ 1024) (π (ν 1) (κ 1))) (δ (κ 1024) (ν 1))) .ok))))))))))) .ok))))))))))))))))))))
end Go.Mg
namespace Go.Mg
open Go Go.Sx
variable {I : Itp}
theorem words {f : Int → Nat → Int} {c x : Int} (h : ∀ i : Nat, i < 16 → f (c + i) 0 = 0) (h0 : 0 ≤ x) (h1 : x < 1024) : f (x / 64 + c) 0 = 0 := by
 have := h (x / 64).toNat (by omega)
 rw [← this]; congr 1; omega
theorem I7 : ∀ ds, Sorts Qw.sorts ds → WV.vc I ds := by
 refine kU fun T => zk ?_
 set_option linter.unusedSimpArgs false in
 simp only [WV, ν, κ, ο, γ, ω, ρ, χ, π, δ, ξ, α, μ, β, η, τ, Tree.vc, PE.den, E.den, qK, BO.ev, List.getElem?_cons_zero, List.getElem?_cons_succ, List.cons_append, List.nil_append, Option.some.injEq, D.i.injEq, D.t.injEq, exists_eq_left', exists_const, forall_const, forall_eq', qY, qX, qo, zero_eq, min_i64, max_i64, min_u8, max_u8, min_u16, max_u16, min_u32, max_u32, min_u64, max_u64, and_true, true_and]
 intro hT a b c d e x h0 h1 h2 h3 h4 h5 h6 h7 h8 h9 h10 h11
 have hx := hT x
 generalize T x 0 = k at *
 generalize T x 1 = y at *
 clear hT
 refine ⟨fun h => ?_, fun _ => trivial⟩
 repeat' (first | omega | (intro _) | (refine And.intro ?_ ?_) | trivial)
theorem qzV : ∀ ds, Sorts XW.sorts ds → BR.vc I ds := by
 refine kU fun T => zk ?_
 set_option linter.unusedSimpArgs false in
 simp only [BR, ν, κ, ο, γ, ω, ρ, χ, π, δ, ξ, α, μ, β, η, τ, Tree.vc, PE.den, E.den, qK, BO.ev, List.getElem?_cons_zero, List.getElem?_cons_succ, List.cons_append, List.nil_append, Option.some.injEq, D.i.injEq, D.t.injEq, exists_eq_left', exists_const, forall_const, forall_eq', qY, qX, qo, zero_eq, min_i64, max_i64, min_u8, max_u8, min_u16, max_u16, min_u32, max_u32, min_u64, max_u64, and_true, true_and]
 intro hT x h0 h1
 have hx := hT x
 have hx : T x 0 = 0 := by omega
 rw [hx]
 clear hT
 refine ⟨fun h => ?_, fun _ => trivial⟩
 repeat' (first | omega | (intro _) | (refine And.intro ?_ ?_) | trivial)
theorem BG (c : Int) (hc : 0 ≤ c) (hd : c ≤ 160) : ∀ ds, Sorts [true] ds → (WG c).vc I ds := by
 refine kU fun T => zk ?_
 set_option linter.unusedSimpArgs false in
 simp only [WG, ν, κ, ο, γ, ω, ρ, χ, π, δ, ξ, α, μ, β, η, τ, Tree.vc, PE.den, E.den, qK, BO.ev, List.getElem?_cons_zero, List.getElem?_cons_succ, List.cons_append, List.nil_append, Option.some.injEq, D.i.injEq, D.t.injEq, exists_eq_left', exists_const, forall_const, forall_eq', qY, qX, qo, zero_eq, min_i64, max_i64, min_u8, max_u8, min_u16, max_u16, min_u32, max_u32, min_u64, max_u64, and_true, true_and]
 intro a0 a1 a2 a3 a4 a5 a6 a7 a8 a9 a10 a11 a12 a13 a14 a15 x h0 h1
 refine ⟨fun h => ?_, fun _ => trivial⟩
 have hw := words (f := T) (c := c) (x := x) (fun i hi => by
   match i, hi with
   | 0, _ => simpa using a0 | 1, _ => exact a1 | 2, _ => exact a2 | 3, _ => exact a3 | 4, _ => exact a4 | 5, _ => exact a5 | 6, _ => exact a6 | 7, _ => exact a7
   | 8, _ => exact a8 | 9, _ => exact a9 | 10, _ => exact a10 | 11, _ => exact a11 | 12, _ => exact a12 | 13, _ => exact a13 | 14, _ => exact a14 | 15, _ => exact a15
   | n + 16, hi => omega) h0 h
 rw [qxc h0 h]
 rw [hw, R3]
 have hm : x.tmod 64 = x % 64 := Int.tmod_eq_emod_of_nonneg h0
 rw [hm]
 clear a0 a1 a2 a3 a4 a5 a6 a7 a8 a9 a10 a11 a12 a13 a14 a15 hw
 repeat' (first | omega | (intro _) | (refine And.intro ?_ ?_) | trivial)
theorem qzN : ∀ ds, Sorts XG.sorts ds → Dz.vc I ds := by
 refine zk ?_
 set_option linter.unusedSimpArgs false in
 simp only [Dz, ν, κ, ο, γ, ω, ρ, χ, π, δ, ξ, α, μ, β, η, τ, Tree.vc, PE.den, E.den, qK, BO.ev, List.getElem?_cons_zero, List.getElem?_cons_succ, List.cons_append, List.nil_append, Option.some.injEq, D.i.injEq, D.t.injEq, exists_eq_left', exists_const, forall_const, forall_eq', qY, qX, qo, zero_eq, min_i64, max_i64, min_u8, max_u8, min_u16, max_u16, min_u32, max_u32, min_u64, max_u64, and_true, true_and]
 refine ⟨⟨_, _, _, rfl, rfl, rfl, fun r c h0 h1 _ => by omega⟩, ?_⟩
 rintro T x h0 h1 ⟨_, _, _, rfl, rfl, rfl, hT⟩
 refine ⟨fun h => ⟨by omega, by omega, by omega, ⟨_, _, _, rfl, rfl, rfl, ?_⟩, by omega, by omega⟩, fun h => ⟨⟨_, _, _, rfl, rfl, rfl, ?_⟩, ⟨_, _, _, rfl, rfl, rfl, ?_⟩⟩⟩
 · intro r c hr hx hc
   by_cases hrx : r = x
   · subst hrx
     match c, hc with
     | 0, _ => simp [qg]
     | 1, _ => simp [qg]
     | 2, _ => simp [qg]
     | 3, _ => simp [qg]
     | 4, _ => simp [qg]
     | n + 5, hc => omega
   · simp only [qg, hrx, false_and, if_false]
     exact hT r c hr (by omega) hc
 · intro r c hr hx hc
   exact (hT r c hr (by omega) hc).symm
 · intro r c hr hx hc
   have : r = 0 := by omega
   subst this
   match c, hc with
   | 0, _ => simp [qg]
   | 1, _ => simp [qg]
   | 2, _ => simp [qg]
   | n + 3, hc => omega
theorem qzX : ∀ ds, Sorts XK.sorts ds → SY.vc I ds := fun _ _ => trivial
def qy3 : E := .upd .zt (.lit 2) 0 (.lit 549755813888)
def uF : Contract := { c0 with fn := 335, args := [.ptr 0 (.lit 0) 0 0], mem := [(0, .big [] [.int .u64] qy3 1024 [] false)], nb := 1, res := .agg [.slice 1 (.lit 0) (.lit 1) 2 false], fresh := [(1, .cells [i64 (.lit 2), .slice 2 (.lit 0) (.lit 1) 2 false] true), (2, .rows [.int .i64, .int .i64] (.upd (.upd .zt (.lit 0) 0 (.lit 39)) (.lit 0) 1 (.lit 1)) (.lit 1) true false)] }
def qqX : Ann where
 fn := 335
 bid := 0
 keep := [6, 3, 2, 0]
 tmps := [(7, i64 (v 0))]
 drop := [2]
 mem := [(2, .cells [.slice 6 (.lit 0) (.lit 1) 2 false] true)]
 sorts := [false]
 nbl := 0
 inv := [eLe (.lit 3) (v 0), eLe (v 0) (.lit 1024)]
 meas := .bin .sub (.lit 1024) (v 0)
def F9 (P : Program) : Cx := { P, cs := [], jr := [qqX], kn := kn }
def WJ : Tree := (η (μ (γ (κ 3) (ν 0)) (μ (γ (ν 0) (κ 1024)) (β (.bin .lt (ν 0) (κ 1024)) (α (γ ο (ν 0)) (β (χ (χ (ξ (.upd .zt (κ 2) 0 (κ 549755813888)) (ν 0) 0) ο) ο) (β (χ (χ (.bin (.bits 5 .u64) (ξ (.upd .zt (κ 2) 0 (κ 549755813888)) (ν 0) 0) ο) ο) ο) (.fail 20) (α (ρ (π (ν 0) (κ 1))) (.fail 61))) (α (ρ (π (ν 0) (κ 1))) (α (γ (κ 3) (π (ν 0) (κ 1))) (α (γ (π (ν 0) (κ 1)) (κ 1024)) (α (γ ο (δ (κ 1024) (π (ν 0) (κ 1)))) (α (ω (δ (κ 1024) (π (ν 0) (κ 1))) (δ (κ 1024) (ν 0))) .ok))))))) .ok))))
theorem II : ∀ ds, Sorts uF.sorts ds → WJ.vc I ds := by
 refine zk ?_
 set_option linter.unusedSimpArgs false in
 simp only [WJ, ν, κ, ο, γ, ω, ρ, χ, π, δ, ξ, α, μ, β, η, τ, Tree.vc, PE.den, E.den, qK, BO.ev, List.getElem?_cons_zero, List.getElem?_cons_succ, List.cons_append, List.nil_append, Option.some.injEq, D.i.injEq, D.t.injEq, exists_eq_left', exists_const, forall_const, forall_eq', qY, qX, qo, zero_eq, min_i64, max_i64, min_u8, max_u8, min_u16, max_u16, min_u32, max_u32, min_u64, max_u64, and_true, true_and]
 intro x h0 h1
 refine ⟨fun h => ?_, fun _ => trivial⟩
 have hx : qg (fun _ _ => 0) 2 0 549755813888 x 0 = 0 := by simp only [qg]; rw [if_neg (by omega)]
 rw [hx]
 repeat' (first | omega | (intro _) | (refine And.intro ?_ ?_) | trivial)
end Go.Mg
namespace Go.Mg
open Go Go.Sx
set_option maxRecDepth 10000
def w (t : E) (r : Int) (c : Nat) (x : Int) : E := .upd t (.lit r) c (.lit x)
def q (n : Int) : AV := .int .i64 (.lit n)
def q0 : AV := .int .i64 (.lit 0)
def q1 : AV := .int .i64 (.lit 1)
def b0 : AV := .bool (.lit 0)
def b1 : AV := .bool (.lit 1)
def u (n : Int) : AV := .int .u64 (.lit n)
def p (b k : Nat) : AV := .ptr b (.lit 0) 0 k
def sb0 : Blk := .rows [(.int .i64), .str, .str, (.int .i64), (.int .i64), (.int .i64), (.int .i64), (.int .i64)] (w (w (w (w (w (w (w (w (w (w (w (w (w (w (w (w (w (w (w (w (w (w (w (w (w (w (w (w (w (w (w (w (w (w (w (w (w (w .zt 0 0 1) 0 1 934621495) 0 3 3) 0 4 1) 1 0 3) 1 1 934621495) 1 2 49) 1 3 100) 1 4 1) 2 0 4) 2 1 934621495) 2 2 55) 3 0 3) 3 1 934621495) 3 2 (-50)) 3 3 10) 3 4 1) 4 0 8) 4 1 934621495) 4 2 (-50)) 4 3 3) 4 4 7) 4 6 1) 5 0 7) 5 1 934621495) 5 2 (-50)) 5 3 3) 5 6 1) 5 7 7) 6 0 5) 6 1 934621495) 6 2 55) 7 0 7) 7 1 934621495) 7 2 (-50)) 7 3 3) 7 6 2) 7 7 170) (.lit 8) true false
def sb1 : Blk := .cells [(p 1 0), (p 2 0), q0, (p 3 0), q0, q0, q0, q0, q0, q0, q0, .qz, b0, .qz, .qz, q0, q0, q0, q0, q0, q0, q0, q0, .qz, b0, .qz, .qz, q0, q0, q0, q0, q0, q0, q0, q0, .qz, b0, .qz, .qz, q0, q0, q0, q0, q0, q0, q0, q0, .qz, b0, .qz, .qz, q0, q0, q0, q0, q0, q0, q0, q0, .qz, b0, .qz, .qz, q0, q0, q0, q0, q0, q0, q0, q0, .qz, b0, .qz, .qz, q0, q0, q0, q0, q0, q0, q0, q0, .qz, b0, .qz, .qz, q0, q0, q0, q0, q0, q0, q0, q0, .qz, b0, .qz, .qz, q0, q0, q0, q0, q0, q0, q0, q0, .qz, b0, .qz, .qz, q0, q0, q0, q0, q0, q0, q0, q0, .qz, b0, .qz, .qz, q0, q0, q0, q0, q0, q0, q0, q0, .qz, b0, .qz, .qz, q0, q0, q0, q0, q0, q0, q0, q0, .qz, b0, .qz, .qz, q0, q0, q0, q0, q0, q0, q0, q0, .qz, b0, .qz, .qz, q0, q0, q0, q0, q0, q0, q0, q0, .qz, b0, .qz, .qz, q0, q0, q0, q0, q0, q0, q0, q0, .qz, b0, .qz, .qz, q0, q0, q0, q0, q0, q0, q0, q0, .qz, b0, .qz, .qz, q0] true
def sb2 : Blk := .cells [(p 4 0), (p 5 0), (p 6 0), .qz, q0] true
def sb3 : Blk := .big [b1, (q 10)] [(.int .u64)] (w .zt 160 0 1) 352 [] true
def sb4 : Blk := .cells [(.slice 7 (.lit 0) (.lit 16) 3 false), (q 16), (.slice 8 (.lit 0) (.lit 1) 1 false), q0] true
def sb5 : Blk := .big [b1] pgK .zt 1024 [.qz, q0, q0, q0, q0, q0, q0, q0, q0, q0, q0, q0, q0, q0, q0] true
def sb6 : Blk := .cells [b1, (.slice 9 (.lit 0) (.lit 1) 6 false)] true
def sb7 : Blk := .big [(q 10), q0, (q 2), q0, (p 10 0)] [(.int .i64)] .zt 1024 [] true
def sb8 : Blk := .rows [(.int .i64), .bool, (.int .i64)] .zt (.lit 16) true false
def sb9 : Blk := .rows [(.int .u64)] (w .zt 0 0 65535) (.lit 1) true false
def qxm : Blk := .rows [(.int .i64), (.int .i64), (.int .i64), (.int .i64), .bool, (.int .i64)] (w (w .zt 0 0 (-1)) 0 1 20) (.lit 1) true false
def Dm : Blk := .cells [(.slice 11 (.lit 0) (.lit 1024) 5 false), (.slice 12 (.lit 0) (.lit 1) 3 false), q0] true
def vN : Blk := .rows [(.int .i64), (.int .i64), (.int .i64), (.int .i64), (.int .i64)] (.kt [0, 0, -1, -1, -1]) (.lit 1024) true false
def vM : Blk := .rows [(.int .i64), (.int .i64), (.int .i64)] (.kt [-1, -1, 0]) (.lit 1) true false
def qxh : Blk := .cells [(p 1 0), (p 2 0), q0, (p 3 0), q0, (q 8), q1, q1, q0, q1, q0, .qz, b0, .qz, .qz, q1, q0, q0, q0, q0, q0, q0, q0, .qz, b0, .qz, .qz, q0, q0, q0, q0, q0, q0, q0, q0, .qz, b0, .qz, .qz, q0, q0, q0, q0, q0, q0, q0, q0, .qz, b0, .qz, .qz, q0, q0, q0, q0, q0, q0, q0, q0, .qz, b0, .qz, .qz, q0, q0, q0, q0, q0, q0, q0, q0, .qz, b0, .qz, .qz, q0, q0, q0, q0, q0, q0, q0, q0, .qz, b0, .qz, .qz, q0, q0, q0, q0, q0, q0, q0, q0, .qz, b0, .qz, .qz, q0, q0, q0, q0, q0, q0, q0, q0, .qz, b0, .qz, .qz, q0, q0, q0, q0, q0, q0, q0, q0, .qz, b0, .qz, .qz, q0, q0, q0, q0, q0, q0, q0, q0, .qz, b0, .qz, .qz, q0, q0, q0, q0, q0, q0, q0, q0, .qz, b0, .qz, .qz, q0, q0, q0, q0, q0, q0, q0, q0, .qz, b0, .qz, .qz, q0, q0, q0, q0, q0, q0, q0, q0, .qz, b0, .qz, .qz, q0, q0, q0, q0, q0, q0, q0, q0, .qz, b0, .qz, .qz, q0, q0, q0, q0, q0, q0, q0, q0, .qz, b0, .qz, .qz, q0] true
def tJ : Blk := .big [b1, (q 10)] [(.int .u64)] (w (w (w (w (w (w (w (w (w .zt 160 0 0) 152 0 1) 132 0 1) 114 0 1) 97 0 1) 80 0 4294967296) 64 0 65536) 48 0 256) 224 0 1) 352 [] true
def qjy : Blk := .big [b1] pgK (w (w (w (w (w (w (w (w .zt 0 0 3) 1 0 1) 2 0 1) 3 0 1) 4 0 1) 5 0 1) 6 0 1) 7 0 3) 1024 [.qz, q1, q0, q0, q0, (q 2), q0, q0, q0, q0, q0, q0, q0, q0, q0] true
def tZ : Blk := .rows [(.int .i64), .bool, (.int .i64)] (w (w .zt 0 0 1) 0 1 1) (.lit 16) true false
def tQ : Blk := .rows [(.int .u64)] (w .zt 0 0 65534) (.lit 1) true false
def qjw : Blk := .rows [(.int .i64), (.int .i64), (.int .i64), (.int .i64), .bool, (.int .i64)] (w (w (w .zt 0 0 (-1)) 0 1 20) 1 1 4096) (.lit 2) true false
def OZ : Blk := .cells [b1, (.slice 2 (.lit 0) (.lit 2) 6 false)] true
def iZ : Blk := .big [b1] pgK (w (w (w (w (w (w (w (w .zt 0 0 3) 1 0 2) 2 0 2) 3 0 1) 4 0 1) 5 0 1) 6 0 1) 7 0 3) 1024 [.qz, q1, q0, q1, q0, (q 2), q0, q0, q0, q0, q0, q0, q0, q0, q0] true
def gY : Blk := .rows [(.int .i64), (.int .i64), (.int .i64), (.int .i64), .bool, (.int .i64)] (w (w (w (w (w (w (w (w .zt 0 0 (-1)) 0 1 20) 1 1 4096) 1 2 2) 1 5 2) 1 3 2) 0 5 2) 0 3 2) (.lit 2) true false
def qxf : Blk := .cells [(p 2 0), (p 3 0), (p 4 0), .qz, q0] true
def qxd : Blk := .cells [b1, (.slice 5 (.lit 0) (.lit 2) 6 false)] true
def qxb : Blk := .big [(q 10), q0, (q 2), q0, (p 6 0)] [(.int .i64)] .zt 1024 [] true
def qxg : Blk := .cells [(.slice 7 (.lit 0) (.lit 1024) 5 false), (.slice 8 (.lit 0) (.lit 1) 3 false), q0] true
def qxv : Blk := .cells [(.slice 7 (.lit 0) (.lit 16) 3 false), (q 16), (.slice 8 (.lit 0) (.lit 1) 1 false), q1] true
def qxx : Blk := .cells [b1, (.slice 9 (.lit 0) (.lit 2) 6 false)] true
def Yy : Blk := .rows [(.int .i64), (.int .i64)] (w (w .zt 0 0 64) 0 1 100) (.lit 1) true false
def qxy : Blk := .cells [(p 5 0), (p 6 0), (p 7 0), .qz, q0] true
def qxw : Blk := .cells [(.slice 8 (.lit 0) (.lit 16) 3 false), (q 16), (.slice 9 (.lit 0) (.lit 1) 1 false), q1] true
def qxk : Blk := .cells [b1, (.slice 10 (.lit 0) (.lit 2) 6 false)] true
def qxj : Blk := .big [(q 10), q0, (q 2), q0, (p 11 0)] [(.int .i64)] .zt 1024 [] true
def qxz : Blk := .cells [(.slice 12 (.lit 0) (.lit 1024) 5 false), (.slice 13 (.lit 0) (.lit 1) 3 false), q0] true
def mK : Blk := .rows [(.int .i64), (.int .i64)] (w (w .zt 0 0 1) 0 1 1) (.lit 1) true false
def OQ : Blk := .cells [(p 1 0), q0, (q 8), q1, q1, q0, q1, (q 2), .qz, b0, (.slice 2 (.lit 0) (.lit 1) 2 false), (.slice 3 (.lit 0) (.lit 1) 2 false), (q 2)] true
def qxq : Blk := .cells [b1, (.slice 7 (.lit 0) (.lit 2) 6 false)] true
def qy9 : Blk := .big [(q 10), q0, (q 2), q0, (p 8 0)] [(.int .i64)] .zt 1024 [] true
def qy8 : Blk := .cells [(.slice 9 (.lit 0) (.lit 1024) 5 false), (.slice 10 (.lit 0) (.lit 1) 3 false), q0] true
def qjk : Blk := .cells [(p 1 0), (p 2 0), q0, (p 3 0), q0, (q 8), q1, q1, q0, q1, (q 2), .qz, b0, (.slice 4 (.lit 0) (.lit 1) 2 false), (.slice 5 (.lit 0) (.lit 1) 2 false), (q 2), q0, q0, q0, q0, q0, q0, q0, .qz, b0, .qz, .qz, q0, q0, q0, q0, q0, q0, q0, q0, .qz, b0, .qz, .qz, q0, q0, q0, q0, q0, q0, q0, q0, .qz, b0, .qz, .qz, q0, q0, q0, q0, q0, q0, q0, q0, .qz, b0, .qz, .qz, q0, q0, q0, q0, q0, q0, q0, q0, .qz, b0, .qz, .qz, q0, q0, q0, q0, q0, q0, q0, q0, .qz, b0, .qz, .qz, q0, q0, q0, q0, q0, q0, q0, q0, .qz, b0, .qz, .qz, q0, q0, q0, q0, q0, q0, q0, q0, .qz, b0, .qz, .qz, q0, q0, q0, q0, q0, q0, q0, q0, .qz, b0, .qz, .qz, q0, q0, q0, q0, q0, q0, q0, q0, .qz, b0, .qz, .qz, q0, q0, q0, q0, q0, q0, q0, q0, .qz, b0, .qz, .qz, q0, q0, q0, q0, q0, q0, q0, q0, .qz, b0, .qz, .qz, q0, q0, q0, q0, q0, q0, q0, q0, .qz, b0, .qz, .qz, q0, q0, q0, q0, q0, q0, q0, q0, .qz, b0, .qz, .qz, q0, q0, q0, q0, q0, q0, q0, q0, .qz, b0, .qz, .qz, q0] true
def qjj : Blk := .cells [(p 6 0), (p 7 0), (p 8 0), .qz, q0] true
def Oe : Blk := .cells [(.slice 9 (.lit 0) (.lit 16) 3 false), (q 16), (.slice 10 (.lit 0) (.lit 1) 1 false), q1] true
def Oa : Blk := .cells [b1, (.slice 11 (.lit 0) (.lit 2) 6 false)] true
def Oo : Blk := .big [(q 10), q0, (q 2), q0, (p 12 0)] [(.int .i64)] .zt 1024 [] true
def Oi : Blk := .cells [(.slice 13 (.lit 0) (.lit 1024) 5 false), (.slice 14 (.lit 0) (.lit 1) 3 false), q0] true
def Dh : Blk := .rows [(.int .i64), (.int .i64)] (w (w (w (w .zt 0 0 64) 0 1 100) 1 0 164) 1 1 10) (.lit 2) true false
def Tf : Blk := .cells [(p 1 0), (p 2 0), q0, (p 3 0), q0, (q 8), q1, q1, q0, q1, (q 2), .qz, b0, (.slice 4 (.lit 0) (.lit 2) 2 false), (.slice 5 (.lit 0) (.lit 1) 2 false), (q 2), q0, q0, q0, q0, q0, q0, q0, .qz, b0, .qz, .qz, q0, q0, q0, q0, q0, q0, q0, q0, .qz, b0, .qz, .qz, q0, q0, q0, q0, q0, q0, q0, q0, .qz, b0, .qz, .qz, q0, q0, q0, q0, q0, q0, q0, q0, .qz, b0, .qz, .qz, q0, q0, q0, q0, q0, q0, q0, q0, .qz, b0, .qz, .qz, q0, q0, q0, q0, q0, q0, q0, q0, .qz, b0, .qz, .qz, q0, q0, q0, q0, q0, q0, q0, q0, .qz, b0, .qz, .qz, q0, q0, q0, q0, q0, q0, q0, q0, .qz, b0, .qz, .qz, q0, q0, q0, q0, q0, q0, q0, q0, .qz, b0, .qz, .qz, q0, q0, q0, q0, q0, q0, q0, q0, .qz, b0, .qz, .qz, q0, q0, q0, q0, q0, q0, q0, q0, .qz, b0, .qz, .qz, q0, q0, q0, q0, q0, q0, q0, q0, .qz, b0, .qz, .qz, q0, q0, q0, q0, q0, q0, q0, q0, .qz, b0, .qz, .qz, q0, q0, q0, q0, q0, q0, q0, q0, .qz, b0, .qz, .qz, q0, q0, q0, q0, q0, q0, q0, q0, .qz, b0, .qz, .qz, q0] true
def Yw : Blk := .big [b1] pgK (w (w (w (w (w (w (w (w (w .zt 0 0 3) 1 0 2) 2 0 2) 3 0 1) 4 0 1) 5 0 1) 6 0 1) 7 0 3) 2 41 7) 1024 [.qz, q1, q0, q1, q0, (q 2), q0, q0, q0, q0, q0, q0, q0, q0, q0] true
def Yk : Blk := .rows [(.int .i64), (.int .i64)] (w (w .zt 0 0 39) 0 1 1) (.lit 1) true false
def Pb : Blk := .cells [(p 6 0), (p 7 0), (p 8 0), (.slice 9 (.lit 0) (.lit 1) 2 false), q0] true
def Pg : Blk := .cells [(.slice 10 (.lit 0) (.lit 16) 3 false), (q 16), (.slice 11 (.lit 0) (.lit 1) 1 false), q1] true
def Pv : Blk := .cells [b1, (.slice 12 (.lit 0) (.lit 2) 6 false)] true
def Px : Blk := .big [(q 10), q0, (q 2), q0, (p 13 0)] [(.int .i64)] .zt 1024 [] true
def Py : Blk := .cells [(q 2), (.slice 14 (.lit 0) (.lit 1) 2 false)] true
def Pw : Blk := .cells [(.slice 15 (.lit 0) (.lit 1024) 5 false), (.slice 16 (.lit 0) (.lit 1) 3 false), q0] true
def qy7 : Blk := .cells [(p 4 0), (p 5 0), (p 6 0), (.slice 7 (.lit 0) (.lit 1) 2 false), q0] true
def Td : Blk := .rows [(.int .i64), (.int .i64)] (w (w (w (w .zt 0 0 64) 0 1 100) 1 0 164) 1 1 10) (.lit 1) true false
def qy6 : Blk := .cells [b1, (.slice 8 (.lit 0) (.lit 2) 6 false)] true
def qy5 : Blk := .big [(q 10), q0, (q 2), q0, (p 9 0)] [(.int .i64)] .zt 1024 [] true
def qy4 : Blk := .cells [(q 2), (.slice 10 (.lit 0) (.lit 1) 2 false)] true
def st0 : Contract := { fn := 14, sorts := [], args := [(.agg [(q 20), (q 10), (q 2), (.slice 0 (.lit 0) (.lit 8) 8 false)])], mem := [(0, sb0)], nb := 1, pre := [], outs := [], res := (.tup [q0, q0]), mods := [(0, sb0)], fresh := [], post := [] }
def st1 : Contract := { fn := 73, sorts := [], args := [(q 20), (q 10), (q 2)], mem := [], nb := 0, pre := [], outs := [], res := (.tup [(p 0 0), q0]), mods := [], fresh := [(0, sb1), (1, sb2), (2, sb3), (3, sb4), (4, sb5), (5, sb6), (6, sb7), (7, sb8), (8, sb9), (9, qxm), (10, Dm), (11, vN), (12, vM)], post := [] }
def st2 : Contract := { fn := 75, sorts := [], args := [(p 0 0), (.agg [q1, q0, (q 3), q1, q0])], mem := [(0, sb1), (1, sb2), (2, sb3), (3, sb4), (4, sb5), (5, sb6), (6, sb7), (7, sb8), (8, sb9), (9, qxm), (10, Dm), (11, vN), (12, vM)], nb := 13, pre := [], outs := [], res := (.agg [(q 65536), q0]), mods := [(0, qxh), (1, sb2), (2, tJ), (3, .cells [(.slice 7 (.lit 0) (.lit 16) 3 false), (q 16), (.slice 13 (.lit 0) (.lit 1) 1 false), q1] true), (4, qjy), (5, .cells [b1, (.slice 14 (.lit 0) (.lit 2) 6 false)] true), (6, sb7), (7, tZ), (8, sb9), (10, Dm), (11, vN), (12, vM)], fresh := [(13, tQ), (14, qjw)], post := [] }
def st4 : Contract := { fn := 189, sorts := [], args := [(.agg [q0, (q 8), q1, q1, q0, q1, q0, .qz, b0, .qz, .qz, q1]), (q 100), q1], mem := [], nb := 0, pre := [], outs := [], res := (.tup [(q 64), (q 2), q0]), mods := [], fresh := [], post := [] }
def st5 : Contract := { fn := 240, sorts := [], args := [(p 0 0), (p 1 0), (.agg [q0, (q 8), q1, q1, q0, q1, q0, .qz, b0]), (q 2)], mem := [(0, qjy), (1, OZ), (2, qjw)], nb := 3, pre := [], outs := [], res := (.tup [(.agg [q0, (q 8), q1, q1, q0, q1, (q 2), .qz, b0]), q0]), mods := [(0, iZ), (1, OZ), (2, gY)], fresh := [], post := [] }
def st6 : Contract := { fn := 241, sorts := [], args := [(p 0 0), (.agg [q0, (q 8), q1, q1, q0, q1, (q 2), .qz, b0])], mem := [(0, .cells [(p 1 0), q0, (q 8), q1, q1, q0, q1, q0, .qz, b0, .qz, .qz, q1] true), (1, qxf), (2, iZ), (3, qxd), (4, qxb), (5, gY), (6, qxg), (7, vN), (8, vM)], nb := 9, pre := [], outs := [], res := (.tup []), mods := [(0, .cells [(p 1 0), q0, (q 8), q1, q1, q0, q1, (q 2), .qz, b0, .qz, .qz, q1] true), (1, qxf), (2, iZ), (3, qxd), (4, qxb), (5, gY), (6, qxg), (7, vN), (8, vM)], fresh := [], post := [] }
def st7 : Contract := { fn := 75, sorts := [], args := [(p 0 0), (.agg [(q 3), (q 65536), (q 100), q1, q0])], mem := [(0, qxh), (1, sb2), (2, tJ), (3, qxv), (4, qjy), (5, qxx), (6, sb7), (7, tZ), (8, tQ), (9, qjw), (10, Dm), (11, vN), (12, vM)], nb := 13, pre := [], outs := [], res := (.agg [(q 64), q0]), mods := [(0, .cells [(p 1 0), (p 2 0), q0, (p 3 0), q0, (q 8), q1, q1, q0, q1, (q 2), .qz, b0, (.slice 13 (.lit 0) (.lit 1) 2 false), .qz, q1, q0, q0, q0, q0, q0, q0, q0, .qz, b0, .qz, .qz, q0, q0, q0, q0, q0, q0, q0, q0, .qz, b0, .qz, .qz, q0, q0, q0, q0, q0, q0, q0, q0, .qz, b0, .qz, .qz, q0, q0, q0, q0, q0, q0, q0, q0, .qz, b0, .qz, .qz, q0, q0, q0, q0, q0, q0, q0, q0, .qz, b0, .qz, .qz, q0, q0, q0, q0, q0, q0, q0, q0, .qz, b0, .qz, .qz, q0, q0, q0, q0, q0, q0, q0, q0, .qz, b0, .qz, .qz, q0, q0, q0, q0, q0, q0, q0, q0, .qz, b0, .qz, .qz, q0, q0, q0, q0, q0, q0, q0, q0, .qz, b0, .qz, .qz, q0, q0, q0, q0, q0, q0, q0, q0, .qz, b0, .qz, .qz, q0, q0, q0, q0, q0, q0, q0, q0, .qz, b0, .qz, .qz, q0, q0, q0, q0, q0, q0, q0, q0, .qz, b0, .qz, .qz, q0, q0, q0, q0, q0, q0, q0, q0, .qz, b0, .qz, .qz, q0, q0, q0, q0, q0, q0, q0, q0, .qz, b0, .qz, .qz, q0, q0, q0, q0, q0, q0, q0, q0, .qz, b0, .qz, .qz, q0] true), (1, sb2), (2, tJ), (3, qxv), (4, iZ), (5, qxx), (6, sb7), (7, tZ), (8, tQ), (9, gY), (10, Dm), (11, vN), (12, vM)], fresh := [(13, Yy)], post := [] }
def st9 : Contract := { fn := 75, sorts := [], args := [(p 0 0), (.agg [(q 4), (q 65536), q0, q0, q0])], mem := [(0, .cells [(p 1 0), (p 2 0), q0, (p 3 0), q0, (q 8), q1, q1, q0, q1, (q 2), .qz, b0, (.slice 4 (.lit 0) (.lit 1) 2 false), .qz, q1, q0, q0, q0, q0, q0, q0, q0, .qz, b0, .qz, .qz, q0, q0, q0, q0, q0, q0, q0, q0, .qz, b0, .qz, .qz, q0, q0, q0, q0, q0, q0, q0, q0, .qz, b0, .qz, .qz, q0, q0, q0, q0, q0, q0, q0, q0, .qz, b0, .qz, .qz, q0, q0, q0, q0, q0, q0, q0, q0, .qz, b0, .qz, .qz, q0, q0, q0, q0, q0, q0, q0, q0, .qz, b0, .qz, .qz, q0, q0, q0, q0, q0, q0, q0, q0, .qz, b0, .qz, .qz, q0, q0, q0, q0, q0, q0, q0, q0, .qz, b0, .qz, .qz, q0, q0, q0, q0, q0, q0, q0, q0, .qz, b0, .qz, .qz, q0, q0, q0, q0, q0, q0, q0, q0, .qz, b0, .qz, .qz, q0, q0, q0, q0, q0, q0, q0, q0, .qz, b0, .qz, .qz, q0, q0, q0, q0, q0, q0, q0, q0, .qz, b0, .qz, .qz, q0, q0, q0, q0, q0, q0, q0, q0, .qz, b0, .qz, .qz, q0, q0, q0, q0, q0, q0, q0, q0, .qz, b0, .qz, .qz, q0, q0, q0, q0, q0, q0, q0, q0, .qz, b0, .qz, .qz, q0] true), (1, qxy), (2, tJ), (3, qxw), (4, Yy), (5, iZ), (6, qxk), (7, qxj), (8, tZ), (9, tQ), (10, gY), (11, qxz), (12, vN), (13, vM)], nb := 14, pre := [], outs := [], res := (.agg [q1, q0]), mods := [(0, .cells [(p 1 0), (p 2 0), q0, (p 3 0), q0, (q 8), q1, q1, q0, q1, (q 2), .qz, b0, (.slice 4 (.lit 0) (.lit 1) 2 false), (.slice 14 (.lit 0) (.lit 1) 2 false), (q 2), q0, q0, q0, q0, q0, q0, q0, .qz, b0, .qz, .qz, q0, q0, q0, q0, q0, q0, q0, q0, .qz, b0, .qz, .qz, q0, q0, q0, q0, q0, q0, q0, q0, .qz, b0, .qz, .qz, q0, q0, q0, q0, q0, q0, q0, q0, .qz, b0, .qz, .qz, q0, q0, q0, q0, q0, q0, q0, q0, .qz, b0, .qz, .qz, q0, q0, q0, q0, q0, q0, q0, q0, .qz, b0, .qz, .qz, q0, q0, q0, q0, q0, q0, q0, q0, .qz, b0, .qz, .qz, q0, q0, q0, q0, q0, q0, q0, q0, .qz, b0, .qz, .qz, q0, q0, q0, q0, q0, q0, q0, q0, .qz, b0, .qz, .qz, q0, q0, q0, q0, q0, q0, q0, q0, .qz, b0, .qz, .qz, q0, q0, q0, q0, q0, q0, q0, q0, .qz, b0, .qz, .qz, q0, q0, q0, q0, q0, q0, q0, q0, .qz, b0, .qz, .qz, q0, q0, q0, q0, q0, q0, q0, q0, .qz, b0, .qz, .qz, q0, q0, q0, q0, q0, q0, q0, q0, .qz, b0, .qz, .qz, q0, q0, q0, q0, q0, q0, q0, q0, .qz, b0, .qz, .qz, q0] true), (1, qxy), (2, tJ), (3, qxw), (4, Yy), (5, iZ), (6, qxk), (7, qxj), (8, tZ), (9, tQ), (10, gY), (11, qxz), (12, vN), (13, vM)], fresh := [(14, mK)], post := [] }
def Oc : Contract := { fn := 189, sorts := [], args := [(.agg [q0, (q 8), q1, q1, q0, q1, (q 2), .qz, b0, (.slice 0 (.lit 0) (.lit 1) 2 false), (.slice 1 (.lit 0) (.lit 1) 2 false), (q 2)]), (q 10), q1], mem := [(0, Yy), (1, mK)], nb := 2, pre := [], outs := [], res := (.tup [(q 164), (q 2), q0]), mods := [(0, Yy), (1, mK)], fresh := [], post := [] }
def Ot : Contract := { fn := 240, sorts := [], args := [(p 0 0), (p 1 0), (.agg [q0, (q 8), q1, q1, q0, q1, (q 2), .qz, b0]), (q 2)], mem := [(0, iZ), (1, OZ), (2, gY)], nb := 3, pre := [], outs := [], res := (.tup [(.agg [q0, (q 8), q1, q1, q0, q1, (q 2), .qz, b0]), q0]), mods := [(0, iZ), (1, OZ), (2, gY)], fresh := [], post := [] }
def Om : Contract := { fn := 241, sorts := [], args := [(p 0 0), (.agg [q0, (q 8), q1, q1, q0, q1, (q 2), .qz, b0])], mem := [(0, OQ), (1, sb2), (2, Yy), (3, mK), (4, iZ), (5, qxq), (6, qy9), (7, gY), (8, qy8), (9, vN), (10, vM)], nb := 11, pre := [], outs := [], res := (.tup []), mods := [(0, OQ), (1, sb2), (2, Yy), (3, mK), (4, iZ), (5, qxq), (6, qy9), (7, gY), (8, qy8), (9, vN), (10, vM)], fresh := [], post := [] }
def Oh : Contract := { fn := 75, sorts := [], args := [(p 0 0), (.agg [(q 3), (q 65536), (q 10), q1, q0])], mem := [(0, qjk), (1, qjj), (2, tJ), (3, Oe), (4, Yy), (5, mK), (6, iZ), (7, Oa), (8, Oo), (9, tZ), (10, tQ), (11, gY), (12, Oi), (13, vN), (14, vM)], nb := 15, pre := [], outs := [], res := (.agg [(q 164), q0]), mods := [(0, .cells [(p 1 0), (p 2 0), q0, (p 3 0), q0, (q 8), q1, q1, q0, q1, (q 2), .qz, b0, (.slice 15 (.lit 0) (.lit 2) 2 false), (.slice 5 (.lit 0) (.lit 1) 2 false), (q 2), q0, q0, q0, q0, q0, q0, q0, .qz, b0, .qz, .qz, q0, q0, q0, q0, q0, q0, q0, q0, .qz, b0, .qz, .qz, q0, q0, q0, q0, q0, q0, q0, q0, .qz, b0, .qz, .qz, q0, q0, q0, q0, q0, q0, q0, q0, .qz, b0, .qz, .qz, q0, q0, q0, q0, q0, q0, q0, q0, .qz, b0, .qz, .qz, q0, q0, q0, q0, q0, q0, q0, q0, .qz, b0, .qz, .qz, q0, q0, q0, q0, q0, q0, q0, q0, .qz, b0, .qz, .qz, q0, q0, q0, q0, q0, q0, q0, q0, .qz, b0, .qz, .qz, q0, q0, q0, q0, q0, q0, q0, q0, .qz, b0, .qz, .qz, q0, q0, q0, q0, q0, q0, q0, q0, .qz, b0, .qz, .qz, q0, q0, q0, q0, q0, q0, q0, q0, .qz, b0, .qz, .qz, q0, q0, q0, q0, q0, q0, q0, q0, .qz, b0, .qz, .qz, q0, q0, q0, q0, q0, q0, q0, q0, .qz, b0, .qz, .qz, q0, q0, q0, q0, q0, q0, q0, q0, .qz, b0, .qz, .qz, q0, q0, q0, q0, q0, q0, q0, q0, .qz, b0, .qz, .qz, q0] true), (1, qjj), (2, tJ), (3, Oe), (4, Yy), (5, mK), (6, iZ), (7, Oa), (8, Oo), (9, tZ), (10, tQ), (11, gY), (12, Oi), (13, vN), (14, vM)], fresh := [(15, Dh)], post := [] }
def Od : Contract := { fn := 75, sorts := [], args := [(p 0 0), (.agg [(q 8), (q 65536), (q 167), (q 7), q0])], mem := [(0, Tf), (1, qjj), (2, tJ), (3, Oe), (4, Dh), (5, mK), (6, iZ), (7, Oa), (8, Oo), (9, tZ), (10, tQ), (11, gY), (12, Oi), (13, vN), (14, vM)], nb := 15, pre := [], outs := [], res := (.agg [q0, q0]), mods := [(0, Tf), (1, .cells [(p 6 0), (p 7 0), (p 8 0), (.slice 15 (.lit 0) (.lit 1) 2 false), q0] true), (2, tJ), (3, Oe), (4, Dh), (5, mK), (6, Yw), (7, Oa), (8, Oo), (9, tZ), (10, tQ), (11, gY), (12, Oi), (13, vN), (14, vM)], fresh := [(15, .cells [(q 2), (.slice 16 (.lit 0) (.lit 1) 2 false)] true), (16, Yk)], post := [] }
def Ob : Contract := { fn := 75, sorts := [], args := [(p 0 0), (.agg [(q 7), (q 65536), (q 167), q0, q0])], mem := [(0, Tf), (1, Pb), (2, tJ), (3, Pg), (4, Dh), (5, mK), (6, Yw), (7, Pv), (8, Px), (9, Py), (10, tZ), (11, tQ), (12, gY), (13, Pw), (14, Yk), (15, vN), (16, vM)], nb := 17, pre := [], outs := [], res := (.agg [(q 7), q0]), mods := [(0, Tf), (1, Pb), (2, tJ), (3, Pg), (4, Dh), (5, mK), (6, Yw), (7, Pv), (8, Px), (9, Py), (10, tZ), (11, tQ), (12, gY), (13, Pw), (14, Yk), (15, vN), (16, vM)], fresh := [], post := [] }
def Og : Contract := { fn := 241, sorts := [], args := [(p 0 0), (.agg [q0, (q 8), q1, q1, q0, q1, (q 2), .qz, b0])], mem := [(0, OQ), (1, qy7), (2, Td), (3, mK), (4, Yw), (5, qy6), (6, qy5), (7, qy4), (8, gY), (9, Dm), (10, Yk), (11, vN), (12, vM)], nb := 13, pre := [], outs := [], res := (.tup []), mods := [(0, OQ), (1, qy7), (2, Td), (3, mK), (4, Yw), (5, qy6), (6, qy5), (7, qy4), (8, gY), (9, Dm), (10, Yk), (11, vN), (12, vM)], fresh := [], post := [] }
def Ov : Contract := { fn := 75, sorts := [], args := [(p 0 0), (.agg [(q 5), (q 65536), q1, q0, q0])], mem := [(0, Tf), (1, Pb), (2, tJ), (3, Pg), (4, Dh), (5, mK), (6, Yw), (7, Pv), (8, Px), (9, Py), (10, tZ), (11, tQ), (12, gY), (13, Pw), (14, Yk), (15, vN), (16, vM)], nb := 17, pre := [], outs := [], res := (.agg [q0, q0]), mods := [(0, .cells [(p 1 0), (p 2 0), q0, (p 3 0), q0, (q 8), q1, q1, q0, q1, (q 2), .qz, b0, (.slice 17 (.lit 0) (.lit 1) 2 false), (.slice 18 (.lit 0) (.lit 1) 2 false), (q 2), q0, q0, q0, q0, q0, q0, q0, .qz, b0, .qz, .qz, q0, q0, q0, q0, q0, q0, q0, q0, .qz, b0, .qz, .qz, q0, q0, q0, q0, q0, q0, q0, q0, .qz, b0, .qz, .qz, q0, q0, q0, q0, q0, q0, q0, q0, .qz, b0, .qz, .qz, q0, q0, q0, q0, q0, q0, q0, q0, .qz, b0, .qz, .qz, q0, q0, q0, q0, q0, q0, q0, q0, .qz, b0, .qz, .qz, q0, q0, q0, q0, q0, q0, q0, q0, .qz, b0, .qz, .qz, q0, q0, q0, q0, q0, q0, q0, q0, .qz, b0, .qz, .qz, q0, q0, q0, q0, q0, q0, q0, q0, .qz, b0, .qz, .qz, q0, q0, q0, q0, q0, q0, q0, q0, .qz, b0, .qz, .qz, q0, q0, q0, q0, q0, q0, q0, q0, .qz, b0, .qz, .qz, q0, q0, q0, q0, q0, q0, q0, q0, .qz, b0, .qz, .qz, q0, q0, q0, q0, q0, q0, q0, q0, .qz, b0, .qz, .qz, q0, q0, q0, q0, q0, q0, q0, q0, .qz, b0, .qz, .qz, q0, q0, q0, q0, q0, q0, q0, q0, .qz, b0, .qz, .qz, q0] true), (1, Pb), (2, tJ), (3, Pg), (4, Dh), (5, mK), (6, Yw), (7, Pv), (8, Px), (9, Py), (10, tZ), (11, tQ), (12, gY), (13, Pw), (14, Yk), (15, vN), (16, vM)], fresh := [(17, Td), (18, mK)], post := [] }
def Ox : Contract := { fn := 75, sorts := [], args := [(p 0 0), (.agg [(q 7), (q 65536), (q 167), q0, q0])], mem := [(0, qjk), (1, Pb), (2, tJ), (3, Pg), (4, Td), (5, mK), (6, Yw), (7, Pv), (8, Px), (9, Py), (10, tZ), (11, tQ), (12, gY), (13, Pw), (14, Yk), (15, vN), (16, vM)], nb := 17, pre := [], outs := [], res := (.agg [q0, (q 170)]), mods := [(0, qjk), (1, Pb), (2, tJ), (3, Pg), (4, Td), (5, mK), (6, Yw), (7, Pv), (8, Px), (9, Py), (10, tZ), (11, tQ), (12, gY), (13, Pw), (14, Yk), (15, vN), (16, vM)], fresh := [], post := [] }
def zI (P : Program) (l : List Contract) : Cx := { P, cs := l ++ uF :: loops, jr := [], kn := kn }
def qza : Contract := { c0 with fn := 6, res := .bool (.lit 1) }
end Go.Mg
namespace Go.Sf
open Go Go.Lib
theorem wQ {u : Nat} (h : u < 10) : decDigits u = [UInt8.ofNat (48 + u)] := by rw [decDigits, dif_pos h]
theorem lZ {u : Nat} (h : ¬ u < 10) : decDigits u = decDigits (u / 10) ++ [UInt8.ofNat (48 + u % 10)] := by rw [decDigits, dif_neg h]
theorem Xi {d : Nat} (h : d < 10) : (UInt8.ofNat (48 + d)).toNat = 48 + d := by
 simp; omega
theorem ko (u : Nat) : ∀ b ∈ decDigits u, 48 ≤ b.toNat ∧ b.toNat ≤ 57 := by
 induction u using Nat.strongRecOn with
 | _ u ih =>
   intro b hb
   by_cases h : u < 10
   · rw [wQ h] at hb
     simp only [List.mem_singleton] at hb
     subst hb
     rw [Xi h]; omega
   · rw [lZ h] at hb
     rcases List.mem_append.1 hb with hb | hb
     · exact ih (u / 10) (by omega) b hb
     · simp only [List.mem_singleton] at hb
       subst hb
       rw [Xi (Nat.mod_lt _ (by omega))]; omega
theorem sI (u : Nat) : decDigits u ≠ [] := by
 by_cases h : u < 10
 · rw [wQ h]; simp
 · rw [lZ h]; simp
theorem qqc (u : Nat) (h0 : 1 ≤ u) : ∀ b, (decDigits u).head? = some b → b.toNat ≠ 48 := by
 induction u using Nat.strongRecOn with
 | _ u ih =>
   intro b hb
   by_cases h : u < 10
   · rw [wQ h] at hb
     simp only [List.head?_cons, Option.some.injEq] at hb
     subst hb
     rw [Xi h]; omega
   · rw [lZ h] at hb
     obtain ⟨c, r, hr⟩ := List.exists_cons_of_ne_nil (sI (u / 10))
     rw [hr] at hb
     simp only [List.cons_append, List.head?_cons, Option.some.injEq] at hb
     subst hb
     exact ih (u / 10) (by omega) (by omega) c (by rw [hr]; rfl)
theorem Fb {n : Int} (h0 : 0 ≤ n) (h : n < 10) : itoa n = [UInt8.ofNat (48 + n.toNat)] := by
 unfold itoa; rw [if_neg (by omega), wQ (by omega)]
theorem L8 {n : Int} (h : 10 ≤ n) : itoa n = itoa (n.tdiv 10) ++ itoa (n.tmod 10) := by
 obtain ⟨u, rfl⟩ := Int.eq_ofNat_of_zero_le (show 0 ≤ n by omega)
 have e1 : ((u : Int)).tdiv 10 = ((u / 10 : Nat) : Int) := by rw [Int.tdiv_eq_ediv_of_nonneg (by omega)]; rfl
 have e2 : ((u : Int)).tmod 10 = ((u % 10 : Nat) : Int) := by rw [Int.tmod_eq_emod_of_nonneg (by omega)]; rfl
 rw [e1, e2, itoa_nonneg, itoa_nonneg, itoa_nonneg, lZ (by omega), wQ (u := u % 10) (Nat.mod_lt _ (by omega))]
theorem Ra {n : Int} (h0 : n < 0) (h : -10 < n) : itoa n = 45 :: itoa (-n) := by
 obtain ⟨u, hu⟩ := Int.eq_ofNat_of_zero_le (show 0 ≤ -n by omega)
 have : n = -(u : Int) := by omega
 rw [hu, this, itoa_nonneg, itoa_neg u (by omega)]
theorem RQ {n : Int} (h : n ≤ -10) : itoa n = itoa (n.tdiv 10) ++ itoa (-(n.tmod 10)) := by
 obtain ⟨u, hu⟩ := Int.eq_ofNat_of_zero_le (show 0 ≤ -n by omega)
 have hn : n = -(u : Int) := by omega
 have e1 : n.tdiv 10 = -((u / 10 : Nat) : Int) := by rw [hn, Int.neg_tdiv, Int.tdiv_eq_ediv_of_nonneg (by omega)]; rfl
 have e2 : -(n.tmod 10) = ((u % 10 : Nat) : Int) := by rw [hn, Int.neg_tmod, Int.neg_neg, Int.tmod_eq_emod_of_nonneg (by omega)]; rfl
 rw [e1, e2, hn, itoa_neg u (by omega), itoa_neg (u / 10) (by omega), itoa_nonneg, lZ (by omega), wQ (u := u % 10) (Nat.mod_lt _ (by omega))]
 rfl
theorem ER (n : Int) : itoa n ≠ [] := by
 unfold itoa; split
 · simp
 · exact sI _
theorem L6 (n : Int) : ∀ b ∈ itoa n, b.toNat = 45 ∨ (48 ≤ b.toNat ∧ b.toNat ≤ 57) := by
 intro b hb
 unfold itoa at hb
 split at hb
 · rcases List.mem_cons.1 hb with rfl | hb
   · exact .inl rfl
   · exact .inr (ko _ b hb)
 · exact .inr (ko _ b hb)
def qv3 (a : Nat) (c : UInt8) : Nat := a * 10 + (c.toNat - 48)
def dval (acc : Nat) (l : List UInt8) : Nat := l.foldl qv3 acc
theorem Z4 (acc : Nat) : dval acc [] = acc := rfl
theorem wI (acc : Nat) (c : UInt8) (r : List UInt8) : dval acc (c :: r) = dval (acc * 10 + (c.toNat - 48)) r := List.foldl_cons
theorem bn (l m : List UInt8) (acc : Nat) : dval acc (l ++ m) = dval (dval acc l) m := List.foldl_append
theorem Qz : ∀ (l : List UInt8) (acc : Nat), acc ≤ dval acc l
 | [], _ => Nat.le_refl _
 | c :: l, acc => by
   have h := Qz l (acc * 10 + (c.toNat - 48))
   rw [wI]
   omega
theorem GX (acc d : Nat) (h : d < 10) : dval acc [UInt8.ofNat (48 + d)] = acc * 10 + d := by
 rw [wI, Z4, Xi h]
 omega
theorem rR (u : Nat) : dval 0 (decDigits u) = u := by
 induction u using Nat.strongRecOn with
 | _ u ih =>
   by_cases h : u < 10
   · rw [wQ h, GX 0 u h]; omega
   · rw [lZ h, bn, ih (u / 10) (by omega), GX _ _ (Nat.mod_lt _ (by omega))]
     omega
theorem VZ {M acc : Nat} {c : UInt8} {r : List UInt8} (h : 48 ≤ c.toNat ∧ c.toNat ≤ 57) : parseUintM M acc (c :: r) =
     if 1844674407370955162 ≤ acc then .range else if M < acc * 10 + (c.toNat - 48) then .range else parseUintM M (acc * 10 + (c.toNat - 48)) r := if_pos h
theorem room {M acc d x : Nat} (hM : M ≤ 18446744073709551615) (h1 : acc * 10 + d ≤ x) (h : x ≤ M) : acc < 1844674407370955162 := by omega
theorem PL {M : Nat} (hM : M ≤ 18446744073709551615) (l : List UInt8) : ∀ (acc : Nat), (∀ b ∈ l, 48 ≤ b.toNat ∧ b.toNat ≤ 57) → dval acc l ≤ M → parseUintM M acc l = .ok (dval acc l) := by
 induction l with
 | nil => exact fun _ _ _ => rfl
 | cons c l ih =>
   intro acc hd hle
   have hc := hd c (List.mem_cons_self ..)
   rw [wI] at hle
   have h1 := Qz l (acc * 10 + (c.toNat - 48))
   have h2 : ¬ 1844674407370955162 ≤ acc := Nat.not_le.2 (room hM h1 hle)
   have h3 : ¬ M < acc * 10 + (c.toNat - 48) := Nat.not_lt.2 (Nat.le_trans h1 hle)
   rw [VZ hc, wI, if_neg h2, if_neg h3]
   exact ih _ (fun b hb => hd b (List.mem_cons_of_mem _ hb)) hle
theorem tX {n : Int} (h0 : -9223372036854775808 ≤ n) (h1 : n ≤ 9223372036854775807) : parseIntB 64 (itoa n) = .ok n := by
 have hU : ∀ u : Nat, u ≤ 18446744073709551615 → parseUintB 64 (decDigits u) = .ok u := fun u hu => by
   unfold parseUintB
   rw [if_neg (sI u)]
   have := PL (M := 2 ^ 64 - 1) (by decide) (decDigits u) 0 (ko u) (by rw [rR]; exact hu)
   rw [rR] at this
   exact this
 unfold itoa
 by_cases hn : n < 0
 · rw [if_pos hn]
   simp only [parseIntB]
   have e : (45 : UInt8).toNat = 45 := rfl
   rw [e, if_pos (.inr rfl), hU n.natAbs (by omega)]
   have h2 : ¬ (2 ^ (64 - 1) < n.natAbs) := by simp; omega
   simp only [not_true_eq_false, false_and, if_false, true_and, if_neg h2, if_true]
   congr 1; omega
 · rw [if_neg hn]
   have hne := sI n.toNat
   have hd := ko n.toNat
   have hu := hU n.toNat (by omega)
   generalize decDigits n.toNat = l at hne hd hu
   cases l with
   | nil => exact absurd rfl hne
   | cons c r =>
     have hc := hd c (by simp)
     simp only [parseIntB]
     rw [if_neg (by omega), hu]
     simp only
     rw [if_neg (by simp; omega), if_neg (by omega), if_neg (by omega)]
     congr 1; omega
theorem uJ (c : UInt8) : ∀ (w rest : List UInt8), c ∉ w → indexByte (w ++ c :: rest) c = (w.length : Int)
 | [], rest, _ => by simp [indexByte]
 | b :: w, rest, h => by
   have h1 : b ≠ c := fun e => h (by simp [e])
   have h2 := uJ c w rest (fun hm => h (by simp [hm]))
   simp [indexByte, h1, h2]
theorem Qu {c : UInt8} {w : List UInt8} (h : c ∉ w) : split w [c] = [w] := by
 unfold split
 rw [count_one, List.count_eq_zero_of_not_mem h]
 rfl
theorem Ql {c : UInt8} {w rest : List UInt8} (h : c ∉ w) : split (w ++ c :: rest) [c] = w :: split rest [c] := by
 unfold split
 rw [count_one, count_one, List.count_append, List.count_eq_zero_of_not_mem h, List.count_cons_self, Nat.zero_add]
 simp only [splitK]
 rw [index_one, uJ c w rest h]
 have h1 : ¬ (((w.length : Int) == -1) = true) := by simp
 rw [if_neg h1]
 simp
end Go.Sf
namespace Go.Tt
open Go Go.Sx Go.Mg
def ttS : Nat → Option Bool
 | 3 | 5 | 7 | 8 | 9 | 10 | 11 | 12 | 13 | 14 | 15 | 20 => some false
 | 6 => some true
 | 1000 | 1001 | 1002 | 1003 | 1004 | 1005 | 1008 | 1010 | 1011 => some false
 | 1006 | 1007 | 1009 => some true
 | _ => none
def str (e : E) : AV := .sat e
def sln (e : E) : E := .fn 1001 e (.lit 0) (.lit 0) (.lit 0)
def z0 : E := .lit 0
def sK : List CK := [.str]
def fK : List CK := [.bool, .str]
def stK : List CK := [.int .i64, .str, .str, .int .i64, .int .i64, .int .i64, .int .i64, .int .i64]
def mn : E := .lit (-9223372036854775808)
def mx : E := .lit 9223372036854775807
def fn1 (j : Nat) (a : E) : E := .fn j a z0 z0 z0
def fn2 (j : Nat) (a b : E) : E := .fn j a b z0 z0
def ann (f : FuncId) (b : Nat) (keep : List Nat) (tmps : qD) (sorts : List Bool) (inv : List PE) (meas : E) : Ann :=
 { fn := f, bid := b, keep, tmps, drop := [], mem := [], sorts, nbl := 0, inv, meas }
def kt : Kn := { kn with tab := [54] }
def XB : Contract := { c0 with fn := 64, sorts := [false], args := [i64 (v 0), i64 (.lit 10)], pre := [.rng .i64 (v 0)], outs := [false], res := str (v 1), post := [.same (v 1) (fn1 3 (v 0))] }
def U9 : Contract := { c0 with fn := 94, sorts := [false, false], args := [str (v 0), str (v 1)], outs := [false, false], res := .tup [str (v 2), .bool (v 3)], post := [.same (v 2) (fn2 8 (v 0) (v 1)), .same (v 3) (fn2 9 (v 0) (v 1))] }
def Nw : Contract := { c0 with fn := 96, sorts := [false], args := [str (v 0), i64 (.lit 10), i64 (.lit 64)], pre := [eLe (sln (v 0)) (.lit 1000000)], outs := [false, false], res := .tup [i64 (v 1), .ifo (v 2)], post := [.same (v 1) (fn1 10 (v 0)), .same (v 2) (fn1 11 (v 0)), .rng .i64 (v 1)] }
def FN : Contract := { c0 with fn := 67, sorts := [false, false], args := [str (v 0), str (v 1)], pre := [eLe (sln (v 0)) (.lit 1000000), eLe (.lit 1) (sln (v 1))], outs := [true, false], res := .slice 0 z0 (v 3) 1 false, fresh := [(0, .rows sK (v 2) (v 3) true false)], post := [.same (v 2) (fn2 6 (v 0) (v 1)), .same (v 3) (fn2 7 (v 0) (v 1)), eLe (.lit 1) (v 3)] }
def G8 : Contract := { c0 with fn := 27, sorts := [true, false, false], args := [.slice 0 z0 (v 1) 1 true, str (v 2)], mem := [(0, .rows sK (v 0) (v 1) false true)], nb := 1, pre := [eLe z0 (v 1), .pr 30 [v 0, v 1, v 2]], outs := [false], res := str (v 3), post := [.same (v 3) (.fn 5 (v 0) (v 1) (v 2) z0)] }
def Iy : Contract := { c0 with fn := 91, sorts := [false, false], args := [str (v 0), str (v 1)], outs := [false], res := .bool (v 2), post := [.same (v 2) (fn2 9 (v 0) (v 1))] }
def Iw : Contract := { c0 with fn := 65, sorts := [false, false], args := [str (v 0), str (v 1)], pre := [eLe (sln (v 0)) (.lit 1000000)], outs := [false], res := .bool (v 2), post := [.same (v 2) (fn2 13 (v 0) (v 1))] }
def FR : Contract := { c0 with fn := 66, sorts := [false], args := [str (v 0), .str [10]], outs := [false], res := i64 (v 1), post := [.same (v 1) (fn2 14 (v 0) (.lit 10))] }
def Ig : Contract := { c0 with fn := 127, sorts := [false], args := [str (v 0), .str [34]], outs := [false], res := .bool (v 1), post := [.same (v 1) (fn2 15 (v 0) (.lit 34))] }
def qzo : Contract := { c0 with fn := 123, sorts := [false], args := [str (v 0), .str [34, 34], .str [34]], pre := [eLe (sln (v 0)) (.lit 10000)], outs := [false], res := str (v 1), post := [eLe (sln (v 1)) (.lit 10000)] }
def qzi : Contract := { c0 with fn := 123, sorts := [false], args := [str (v 0), .str [34], .str [34, 34]], pre := [eLe (sln (v 0)) (.lit 10000)], outs := [false], res := str (v 1), post := [eLe (sln (v 1)) (.lit 20000)] }
def qqK : Contract := { c0 with fn := 28, sorts := [false], args := [i64 (v 0)], pre := [.rng .i64 (v 0)], outs := [false], res := str (v 1), post := [.same (v 1) (fn1 3 (v 0))] }
def lC : List PE := [eLe (sln (v 0)) (.lit 100000)]
def XV (f : FuncId) : Contract := { c0 with fn := f, sorts := [false], args := [str (v 0), i64 mn, i64 mx], pre := lC, outs := [false, false], res := .tup [i64 (v 1), i64 (v 2)], post := [.rng .i64 (v 1), .pr 10 [v 0, v 1, v 2]] }
def qb2 : Ann := ann 69 0 [0, 1, 2, 8, 9, 22] [(23, i64 (v 3))] [false] [eLe z0 (v 3), eLe (v 3) (sln (v 1)), .pr 73 [v 1, v 3]] (.bin .sub (sln (v 1)) (v 3))
def cName (f : FuncId) : Contract := { c0 with fn := f, sorts := [false], args := [str (v 0)], pre := lC, outs := [false], res := .bool (v 1), post := [.same (v 1) (fn1 20 (v 0))] }
def aName : Ann := ann 76 0 [0, 6] [(7, i64 (v 1))] [false] [eLe z0 (v 1), eLe (v 1) (sln (v 0)), .pr 40 [v 0, v 1]] (.bin .sub (sln (v 0)) (v 1))
def qyr : Ann := ann 59 0 [0] [(3, i64 (v 1))] [false] [eLe z0 (v 1), eLe (v 1) (sln (v 0)), .pr 40 [v 0, v 1]] (.bin .sub (sln (v 0)) (v 1))
def Ij : Contract := { c0 with fn := 126, sorts := [false, false], args := [str (v 0), .int .u8 (v 1)], pre := lC, outs := [false], res := .bool (v 2), post := [.pr 41 [v 0, v 1, v 2]] }
def qb0 : Ann := ann 126 0 [0, 1, 7] [(8, i64 (v 2))] [false] [eLe z0 (v 2), eLe (v 2) (sln (v 0)), .pr 42 [v 0, v 1, v 2]] (.bin .sub (sln (v 0)) (v 2))
def M9 : Contract := { c0 with fn := 92, sorts := [false], args := [str (v 0)], pre := [eLe (sln (v 0)) (.lit 5000)], outs := [false, false], res := .tup [str (v 1), i64 (v 2)], post := [eLe (sln (v 1)) (.lit 10000)] }
def qqe : Contract := { c0 with fn := 93, sorts := [false, false], args := [.agg [.bool (v 0), str (v 1)]], pre := [eLe (sln (v 1)) (.lit 100000)], outs := [false], res := .bool (v 2), post := [.pr 15 [v 0, v 1, v 2]] }
def qqQ : Contract := { c0 with fn := 121, sorts := [false, false], args := [str (v 0), .func 119 [.ptr 0 z0 0 0]], mem := [(0, .cells [.bool (v 1)] true)], nb := 1, pre := lC, outs := [false, false], res := i64 (v 2), mods := [(0, .cells [.bool (v 3)] true)], post := [eLe (.lit (-1)) (v 2), .tt (.bin .lt (v 2) (.bin .add (sln (v 0)) (.lit 1))), .pr 35 [v 0, v 1, v 2, v 3]] }
def qb1 : Ann := { ann 162 0 [0, 1, 2, 10] [] [false, false] [eLe z0 (v 2), eLe (v 2) (sln (v 0)), .pr 36 [v 0, v 1, v 2, v 3]] (.bin .sub (sln (v 0)) (v 2)) with drop := [0, 1], mem := [(0, .cells [.bool (v 3)] true), (1, .iter (v 0) (v 2) 0)] }
def Iq (f : FuncId) : Contract := { c0 with fn := f, sorts := [false], args := [str (v 0)], pre := lC, outs := [true, false, false], res := .tup [.slice 0 z0 (v 2) 2 true, i64 (v 3)], fresh := [(0, .rows fK (v 1) (v 2) true true)], post := [eLe z0 (v 2), eLe (v 2) (.lit 64), .pr 22 [v 1, v 2], .pr 16 [v 0, v 1, v 2, v 3]] }
def qwM : List AV := [
 i64 (.lit 0), .str [], i64 (.lit 0), i64 (.lit 0), i64 (.lit 0), i64 (.lit 0), .jM,
 i64 (.lit 1), .str [99, 114, 101, 97, 116, 101], i64 (.lit 1), i64 (.lit 0), i64 (.lit 0), i64 (.lit 3), .func 45 [],
 i64 (.lit 2), .str [100, 101, 115, 116, 114, 111, 121], i64 (.lit 2), i64 (.lit 0), i64 (.lit 0), i64 (.lit 0), .func 46 [],
 i64 (.lit 3), .str [97, 108, 108, 111, 99], i64 (.lit 2), i64 (.lit 1), i64 (.lit 3), i64 (.lit 2), .func 46 [],
 i64 (.lit 4), .str [109, 97, 114, 107], i64 (.lit 2), i64 (.lit 1), i64 (.lit 4), i64 (.lit 0), .func 46 [],
 i64 (.lit 5), .str [114, 101, 119, 105, 110, 100], i64 (.lit 2), i64 (.lit 2), i64 (.lit 4), i64 (.lit 0), .func 48 [.ptr 1 (.lit 0) 0 0],
 i64 (.lit 6), .str [114, 101, 115, 101, 116], i64 (.lit 2), i64 (.lit 0), i64 (.lit 0), i64 (.lit 0), .func 46 [],
 i64 (.lit 7), .str [108, 111, 97, 100], i64 (.lit 2), i64 (.lit 2), i64 (.lit 3), i64 (.lit 1), .func 47 [.ptr 1 (.lit 0) 0 0],
 i64 (.lit 8), .str [115, 116, 111, 114, 101], i64 (.lit 2), i64 (.lit 2), i64 (.lit 3), i64 (.lit 2), .func 47 [.ptr 1 (.lit 0) 0 0],
 i64 (.lit 9), .str [116, 105, 99, 107], i64 (.lit 0), i64 (.lit 0), i64 (.lit 0), i64 (.lit 1), .func 45 [],
 i64 (.lit 10), .str [112, 117, 114, 103, 101], i64 (.lit 0), i64 (.lit 0), i64 (.lit 0), i64 (.lit 0), .func 45 [],
 i64 (.lit 11), .str [108, 105, 109, 105, 116], i64 (.lit 0), i64 (.lit 0), i64 (.lit 0), i64 (.lit 1), .func 45 [],
 i64 (.lit 12), .str [114, 101, 102, 117, 115, 101], i64 (.lit 0), i64 (.lit 0), i64 (.lit 0), i64 (.lit 3), .func 45 [],
 i64 (.lit 13), .str [104, 117, 103, 101], i64 (.lit 2), i64 (.lit 0), i64 (.lit 0), i64 (.lit 0), .func 46 []]
def Ru : Mem := [(0, .cells qwM false), (1, .cells [.func 46 []] false)]
def Ri : AV := .slice 0 z0 (.lit 14) 7 false
def qxt : Mem := [(0, .cells [.slice 1 (v 1) (v 2) 2 true, .bool (v 3)] true), (1, .rows fK (v 0) (v 4) false true)]
def qxs : List PE := [eLe z0 (v 1), eLe z0 (v 2), eLe (.bin .add (v 1) (v 2)) (v 4), .pr 22 [v 0, v 4]]
def RA : Contract := { c0 with fn := 32, sorts := [true, false, false, false, false], args := [.ptr 0 z0 0 0], mem := qxt, nb := 2, pre := qxs, outs := [false, false, false, false], res := str (v 5), mods := [(0, .cells [.slice 1 (v 6) (v 7) 2 true, .bool (v 8)] true)], post := [eLe z0 (v 6), eLe z0 (v 7), eLe (.bin .add (v 6) (v 7)) (v 4), eLe (sln (v 5)) (.lit 100000), .pr 33 [v 0, v 1, v 2, v 3, v 5, v 6, v 7, v 8]] }
def Ik : Contract := { c0 with fn := 33, sorts := [true, false, false, false, false], args := [.ptr 0 z0 0 0], mem := qxt, nb := 2, pre := qxs, outs := [false, false, false, false], res := i64 (v 5), mods := [(0, .cells [.slice 1 (v 6) (v 7) 2 true, .bool (v 8)] true)], post := [.rng .i64 (v 5), eLe z0 (v 6), eLe z0 (v 7), eLe (.bin .add (v 6) (v 7)) (v 4), .pr 38 [v 0, v 1, v 2, v 3, v 5, v 6, v 7, v 8]] }
def Tk (f : Nat → E) : List AV := [i64 (f 0), str (f 1), str (f 2), i64 (f 3), i64 (f 4), i64 (f 5), i64 (f 6), i64 (f 7)]
def lG : List AV := Tk fun i => v i
def Dx : List E := (List.range 8).map fun i => v i
def Ho (T r : E) : List E := (List.range 8).map fun i => .sel T r i
def X4 : List PE := [.rng .i64 (v 0), eLe (sln (v 1)) (.lit 100000), eLe (sln (v 2)) (.lit 100000), .rng .i64 (v 3), .rng .i64 (v 4), .rng .i64 (v 5), .rng .i64 (v 6), .rng .i64 (v 7)]
def st8 : List Bool := List.replicate 8 false
def Nz : Contract := { c0 with fn := 23, sorts := st8, args := [Ri, .ptr 2 z0 0 0], mem := Ru ++ [(2, .cells lG false)], nb := 3, pre := X4, outs := [false], res := i64 (v 8), post := [.pr 31 (Dx ++ [v 8])] }
def stB : Blk := .rows stK (v 0) (v 1) false true
def Fh (i n : E) : List PE := [eLe z0 i, .tt (.bin .lt i n)]
def Nq : Contract := { c0 with fn := 23, sorts := [true, false, false], args := [Ri, .ptr 2 (v 2) 8 0], mem := Ru ++ [(2, stB)], nb := 3, pre := Fh (v 2) (v 1) ++ [.pr 45 [v 0, v 1]], outs := [false], res := i64 (v 3), post := [.pr 31 (Ho (v 0) (v 2) ++ [v 3])] }
def qqo : Contract := { c0 with fn := 26, sorts := st8, args := [Ri, .ptr 2 z0 0 0], mem := Ru ++ [(2, .cells lG false)], nb := 3, pre := X4 ++ [.pr 43 Dx], outs := [false], res := str (v 8), post := [.pr 32 (Dx ++ [v 8]), eLe (sln (v 8)) (.lit 200)] }
def qqi : Contract := { c0 with fn := 26, sorts := [true, false, false], args := [Ri, .ptr 2 (v 2) 8 0], mem := Ru ++ [(2, stB)], nb := 3, pre := Fh (v 2) (v 1) ++ [.pr 45 [v 0, v 1], .pr 43 (Ho (v 0) (v 2))], outs := [false], res := str (v 3), post := [.pr 32 (Ho (v 0) (v 2) ++ [v 3]), eLe (sln (v 3)) (.lit 200)] }
def st9 : List Bool := List.replicate 9 false
def qq1 : List E := (List.range 8).map fun i => v (i + 1)
def Tj : List PE := [.rng .i64 (v 1), eLe (sln (v 2)) (.lit 100000), eLe (sln (v 3)) (.lit 100000), .rng .i64 (v 4), .rng .i64 (v 5), .rng .i64 (v 6), .rng .i64 (v 7), .rng .i64 (v 8)]
def dV : Contract := { c0 with fn := 22, sorts := [false], args := [Ri, str (v 0)], mem := Ru, nb := 2, pre := lC, outs := st9, res := .tup [.agg (Tk fun i => v (i + 1)), .bool (v 9)], post := Tj ++ [.pr 34 (v 0 :: qq1 ++ [v 9])] }
def ntK : List CK := [.int .i64, .str, .str, .int .i64]
def qqW : Contract := { c0 with fn := 35, sorts := [true, false, false, true, false], args := [.mref 3, Ri, .ptr 2 (v 2) 8 0], mem := Ru ++ [(2, stB), (3, .smp 3 false ntK (v 3) (v 4))], nb := 4, pre := Fh (v 2) (v 1) ++ [.pr 45 [v 0, v 1], eLe z0 (v 4)], outs := [false], res := i64 (v 5), mods := [(3, .smp 3 false ntK (v 3) (v 4))], post := [.pr 46 ([v 3, v 4] ++ Ho (v 0) (v 2) ++ [v 5])] }
def prg (i b : Nat) : AV := .agg [i64 (v i), i64 (v (i + 1)), i64 (v (i + 2)), .slice b z0 (v (i + 4)) 8 true]
def PD (i : Nat) : Blk := .rows stK (v (i + 3)) (v (i + 4)) false true
def PG : List Bool := [false, false, false, true, false]
def Ad (i : Nat) : List E := [v i, v (i + 1), v (i + 2), v (i + 3), v (i + 4)]
def Af (i : Nat) : List PE := [eLe z0 (v (i + 4)), eLe (v (i + 4)) (.lit 1000000), .pr 45 [v (i + 3), v (i + 4)], .rng .i64 (v i), .rng .i64 (v (i + 1)), .rng .i64 (v (i + 2))]
def xD (f : FuncId) : Contract := { c0 with fn := f, sorts := PG, args := [prg 0 0], mem := [(0, PD 0)], nb := 1, pre := Af 0, outs := [false, false], res := .tup [i64 (v 5), i64 (v 6)], post := [eLe (.lit (-1)) (v 5), eLe (v 5) (.lit 500), .pr 44 (Ad 0 ++ [v 5, v 6])] }
def qyc : Ann := { ann 14 1 [1, 4, 5, 26] [(27, i64 (v 5))] [false, true, false] [eLe z0 (v 5), eLe (v 5) (v 4), eLe z0 (v 7), .pr 47 [v 3, v 5, v 6, v 7]] (.bin .sub (v 4) (v 5)) with drop := [4], mem := [(4, .smp 3 false ntK (v 6) (v 7))] }
def qqD : Ann := ann 15 0 [1] [(4, i64 (v 5))] [false] [eLe z0 (v 5), eLe (v 5) (v 4), .pr 48 [v 3, v 5]] (.bin .sub (v 4) (v 5))
def slP : List PE := [eLe z0 (v 2), eLe (v 2) (v 1), eLe (v 2) (.lit 1000), .pr 45 [v 0, v 1]]
def slA : AV := .slice 0 z0 (v 2) 8 true
def qqY : Contract := { c0 with fn := 38, sorts := [true, false, false] ++ st8, args := [slA, .agg (Tk fun i => v (i + 3))], mem := [(0, stB)], nb := 1, pre := slP ++ [.rng .i64 (v 3), eLe (sln (v 4)) (.lit 100000), eLe (sln (v 5)) (.lit 100000), .rng .i64 (v 6), .rng .i64 (v 7), .rng .i64 (v 8), .rng .i64 (v 9), .rng .i64 (v 10)], outs := [false], res := i64 (v 11), post := [.pr 49 ([v 0, v 2] ++ ((List.range 8).map fun i => v (i + 3)) ++ [v 11])] }
def yT : Contract := { c0 with fn := 25, sorts := st8, args := [.agg lG], pre := X4, outs := [false], res := i64 (v 8), post := [.pr 31 (Dx ++ [v 8])] }
def Ny : Contract := { c0 with fn := 71, sorts := [true, false, false, false], args := [slA, str (v 3)], mem := [(0, stB)], nb := 1, pre := slP, outs := [false], res := .bool (v 4), post := [.pr 50 [v 0, v 2, v 3, v 4]] }
def qgq : Ann := ann 71 0 [0, 1] [(5, i64 (v 4))] [false] [eLe z0 (v 4), eLe (v 4) (v 2), .pr 51 [v 0, v 4, v 3]] (.bin .sub (v 2) (v 4))
def Ng : Contract := { c0 with fn := 72, sorts := [true, false, false, false, false, false], args := [slA, i64 (v 3), str (v 4), str (v 5)], mem := [(0, stB)], nb := 1, pre := slP, outs := [false], res := i64 (v 6), post := [eLe (.lit (-1)) (v 6), .tt (.bin .lt (v 6) (.bin .add (v 2) (.lit 1))), .pr 52 [v 0, v 2, v 3, v 4, v 5, v 6]] }
def qgz : Ann := ann 72 0 [0, 1, 2, 3] [(9, i64 (v 6))] [false] [eLe z0 (v 6), eLe (v 6) (v 2), .pr 53 [v 0, v 6, v 3, v 4, v 5]] (.bin .sub (v 2) (v 6))
def Iz : Contract := { c0 with fn := 40, sorts := st8, args := [.agg lG], pre := X4 ++ [.pr 43 Dx], outs := [false], res := str (v 8), post := [.pr 32 (Dx ++ [v 8]), eLe (sln (v 8)) (.lit 200)] }
def aY (f : FuncId) : Contract := { c0 with fn := f, sorts := st8, args := [.agg lG], pre := X4, outs := [false, false], res := .tup [str (v 8), i64 (v 9)], post := [eLe (sln (v 8)) (.lit 200), .pr 54 (Dx ++ [v 8, v 9])] }
def U8 : Contract := { c0 with fn := 56, sorts := [false], args := [str (v 0)], pre := lC, outs := [true, false, false], res := .tup [.slice 0 z0 (v 2) 1 true, .bool (v 3)], fresh := [(0, .rows sK (v 1) (v 2) true true)], post := [eLe z0 (v 2), .pr 23 [v 1, v 2], .pr 55 [v 0, v 1, v 2, v 3]] }
def FM : Contract := { c0 with fn := 57, outs := [true], res := .slice 0 z0 (.lit 14) 4 false, fresh := [(0, .rows [.str, .str, .str, .int .i64] (v 0) (.lit 14) true false)], post := [.pr 80 [v 0]] }
def qbA : Ann := { ann 56 0 [4, 5] [(7, i64 (v 4)), (6, .slice 1 z0 (v 6) 1 true)] [false, true, false] [eLe z0 (v 4), eLe (v 4) (v 2), eLe z0 (v 6), .pr 56 [v 1, v 4, v 5, v 6]] (.bin .sub (v 2) (v 4)) with mem := [(1, .rows sK (v 5) (v 6) true true)], nbl := 1 }
def uH : Contract := { c0 with fn := 24, sorts := [false], args := [str (v 0)], pre := lC, outs := st9, res := .tup [.agg (Tk fun i => v (i + 1)), .bool (v 9)], post := Tj ++ [.pr 34 (v 0 :: qq1 ++ [v 9])] }
def Nv : Contract := { c0 with fn := 42, sorts := [false], args := [str (v 0)], pre := lC, outs := [false, false, false, false], res := .tup [.agg [i64 (v 1), i64 (v 2), i64 (v 3), .qz], .bool (v 4)], post := [.rng .i64 (v 1), .rng .i64 (v 2), .rng .i64 (v 3), .pr 59 [v 0, v 1, v 2, v 3, v 4]] }
def pX (f : FuncId) : Contract := { c0 with fn := f, sorts := [false], args := [str (v 0)], pre := lC, outs := [true, false, false], res := .tup [.slice 0 z0 (v 2) 1 true, i64 (v 3)], fresh := [(0, .rows sK (v 1) (v 2) true true)], post := [eLe z0 (v 2), .pr 23 [v 1, v 2], .pr 61 [v 0, v 1, v 2, v 3]] }
def qqB : Ann := { ann 41 0 [0] [(6, i64 (v 1)), (5, i64 (v 2)), (4, .slice 0 z0 (v 4) 1 true)] [false, false, true, false] [eLe z0 (v 1), eLe (v 1) (sln (v 0)), eLe z0 (v 2), eLe (v 2) (v 1), eLe z0 (v 4), eLe (v 4) (v 2), .pr 23 [v 3, v 4], .pr 62 [v 0, v 2, v 1, v 3, v 4]] (.bin .sub (sln (v 0)) (v 1)) with mem := [(0, .rows sK (v 3) (v 4) true true)], nbl := 1 }
def pW (f : FuncId) : Contract := { c0 with fn := f, sorts := PG, args := [prg 0 0], mem := [(0, PD 0)], nb := 1, pre := Af 0, outs := [false, false], res := .tup [str (v 5), i64 (v 6)], post := [eLe (sln (v 5)) (.bin .add (.lit 400) (.bin .mul (.lit 210) (v 4))), .pr 63 (Ad 0 ++ [v 5, v 6])] }
def qqV : Ann := ann 16 0 [1] [(7, i64 (v 10)), (6, str (v 11))] [false, false] [eLe z0 (v 10), eLe (v 10) (v 4), eLe (sln (v 11)) (.bin .add (.lit 200) (.bin .mul (.lit 210) (v 10))), .pr 65 [v 0, v 1, v 2, v 3, v 10, v 11]] (.bin .sub (v 4) (v 10))
def pY (f : FuncId) : Contract := { c0 with fn := f, sorts := [false], args := [str (v 0)], pre := lC, outs := [false, false, false, true, false, false, false], res := .tup [.agg [i64 (v 1), i64 (v 2), i64 (v 3), .slice 0 z0 (v 5) 8 true], i64 (v 6), i64 (v 7)], fresh := [(0, .rows stK (v 4) (v 5) true true)], post := [eLe z0 (v 5), eLe (v 5) (.lit 500), .pr 45 [v 4, v 5], .rng .i64 (v 1), .rng .i64 (v 2), .rng .i64 (v 3), .pr 66 [v 0, v 1, v 2, v 3, v 4, v 5, v 6, v 7]] }
def Nj : Contract := { c0 with fn := 13, sorts := PG ++ PG, args := [prg 0 0, prg 5 1], mem := [(0, PD 0), (1, PD 5)], nb := 2, pre := Af 0 ++ Af 5, outs := [false], res := .bool (v 10), post := [.pr 67 (Ad 0 ++ Ad 5 ++ [v 10])] }
def qv7 : Ann := ann 13 0 [2, 3] [(5, i64 (v 10))] [false] [eLe z0 (v 10), eLe (v 10) (v 4), eLe (v 10) (v 9), .pr 68 [v 3, v 8, v 10]] (.bin .sub (v 4) (v 10))
def qqZ : Contract := { c0 with fn := 10, sorts := PG, args := [prg 0 0, i64 (.lit 60)], mem := [(0, PD 0)], nb := 1, pre := [eLe z0 (v 4), .rng .i64 (v 4)], outs := [false], res := .bool (v 5), post := [.pr 69 [v 3, v 4, v 5]] }
def qb3 : Ann := ann 10 0 [2] [(5, i64 (v 5))] [false] [eLe z0 (v 5), eLe (v 5) (v 4), .pr 70 [v 3, v 5]] (.bin .sub (v 4) (v 5))
def gZ (j : Nat) : Contract := { c0 with fn := 39, sorts := [false], args := [i64 (v 0)], pre := [.rng .i64 (v 0), .pr j [v 0]], outs := [false], res := str (v 1), post := [.same (v 1) (.fn 3 (v 0) z0 z0 z0)] }
def FP : Contract := { c0 with fn := 39, sorts := [false], args := [i64 (v 0)], pre := [.rng .i64 (v 0)], outs := [false], res := str (v 1), post := [.same (v 1) (.fn 3 (v 0) z0 z0 z0)] }
def XJ : Contract := { c0 with fn := 110, sorts := [false], args := [str (v 0)], pre := lC, outs := [false], res := .bool (v 1), post := [.pr 11 [v 0, v 1]] }
def Io (q : Int) : Ann where
 fn := 110
 bid := 0
 keep := [0]
 tmps := [(3, i64 (.lit q)), (4, i64 (v 1))]
 drop := []
 mem := []
 sorts := [false]
 nbl := 0
 inv := [eLe (.lit q) (v 1), eLe (v 1) (sln (v 0))]
 meas := .bin .sub (sln (v 0)) (v 1)
def qv9 : Ann where
 fn := 79
 bid := 0
 keep := [0, 1, 2]
 tmps := [(9, i64 (v 2)), (8, i64 (v 3))]
 drop := []
 mem := []
 sorts := [false, false]
 nbl := 0
 inv := [eLe z0 (v 2), eLe (v 2) (sln (v 0)), .same (v 3) (.fn 12 (v 0) (v 2) z0 z0)]
 meas := .bin .sub (sln (v 0)) (v 2)
def qqJ : Contract := { c0 with fn := 107, sorts := [false, false], args := [str (v 0), i64 (v 1)], pre := [eLe (sln (v 0)) (.lit 100000), eLe z0 (v 1), .tt (.bin .lt (v 1) (sln (v 0)))], outs := [false], res := i64 (v 2), post := [eLe (v 1) (v 2), eLe (v 2) (sln (v 0)), .pr 12 [v 0, v 1, v 2]] }
def qb4 : Ann where
 fn := 107
 bid := 0
 keep := [0, 1, 5]
 tmps := [(6, i64 (v 2))]
 drop := []
 mem := []
 sorts := [false]
 nbl := 0
 inv := [eLe (v 1) (v 2), eLe (v 2) (sln (v 0)), .pr 13 [v 0, v 1, v 2]]
 meas := .bin .sub (sln (v 0)) (v 2)
def G7 : Contract := { c0 with fn := 151, sorts := [false], args := [str (v 0)], pre := lC, outs := [false], res := .bool (v 1), post := [.pr 14 [v 0, v 1]] }
def qv5 : Ann where
 fn := 151
 bid := 0
 keep := [0]
 tmps := [(3, i64 (v 1))]
 drop := []
 mem := []
 sorts := [false]
 nbl := 0
 inv := [eLe z0 (v 1), eLe (v 1) (sln (v 0)), .pr 42 [v 0, .lit 32, v 1]]
 meas := .bin .sub (sln (v 0)) (v 1)
def qqa : Contract := { c0 with fn := 108, sorts := [false], args := [str (v 0)], pre := lC, outs := [false, false], res := .tup [str (v 1), i64 (v 2)], post := [eLe (sln (v 1)) (.lit 100000)] }
def qbE : Ann where
 fn := 108
 bid := 0
 keep := [0]
 tmps := [(5, i64 (v 1)), (4, str (v 2))]
 drop := []
 mem := []
 sorts := [false, false]
 nbl := 0
 inv := [eLe (.lit 1) (v 1), eLe (v 1) (sln (v 0)), eLe (sln (v 2)) (v 1)]
 meas := .bin .sub (sln (v 0)) (v 1)
def XY : Contract := { c0 with fn := 109, sorts := [false, false], args := [.agg [.bool (v 0), str (v 1)]], pre := [eLe (sln (v 1)) (.lit 100000)], outs := [false], res := .bool (v 2), post := [.pr 15 [v 0, v 1, v 2]] }
def qyp : Ann where
 fn := 109
 bid := 0
 keep := [1]
 tmps := [(3, i64 (v 2))]
 drop := []
 mem := []
 sorts := [false]
 nbl := 0
 inv := [eLe z0 (v 2), eLe (v 2) (sln (v 1)), .pr 74 [v 1, v 2]]
 meas := .bin .sub (sln (v 1)) (v 2)
def Nk : Contract := { c0 with fn := 78, sorts := [false], args := [str (v 0)], pre := [eLe (sln (v 0)) (.lit 100000)], outs := [true, false, false], res := .tup [.slice 0 z0 (v 2) 2 true, i64 (v 3)], fresh := [(0, .rows fK (v 1) (v 2) true true)], post := [eLe z0 (v 2), eLe (v 2) (.lit 64), .pr 22 [v 1, v 2], .pr 16 [v 0, v 1, v 2, v 3]] }
def qv8 : Ann where
 fn := 78
 bid := 0
 keep := [0]
 tmps := [(5, i64 (v 1)), (4, .slice 0 z0 (v 3) 2 true)]
 drop := []
 mem := [(0, .rows fK (v 2) (v 3) true true)]
 sorts := [false, true, false]
 nbl := 1
 inv := [eLe z0 (v 1), eLe (v 1) (.bin .add (sln (v 0)) (.lit 1)), eLe z0 (v 3), eLe (v 3) (v 1), .pr 22 [v 2, v 3], .pr 17 [v 0, v 1, v 2, v 3]]
 meas := .bin .sub (.bin .add (sln (v 0)) (.lit 1)) (v 1)
def qqU (P : Program) : Cx := { P, cs := [gZ 20], jr := [], kn := kn }
def Sj (P : Program) : Cx := { P, cs := [], jr := [Io 0, Io 1], kn := kn }
def qqL (P : Program) : Cx := { P, cs := [XJ, FP], jr := [qv9], kn := { kn with wrp := true } }
def qyG (P : Program) : Cx := { P, cs := [], jr := [qb4], kn := kn }
def qqR (P : Program) : Cx := { P, cs := [], jr := [qv5], kn := kn }
def qya (P : Program) : Cx := { P, cs := [G7], jr := [qbE], kn := kn }
def Sk (P : Program) : Cx := { P, cs := [G7], jr := [qyp], kn := kn }
def qqC (P : Program) : Cx := { P, cs := [qqJ, qqa, XY], jr := [qv8], kn := kn }
def qv6 : Ann := { ann 120 0 [0, 1, 2] [(4, str (v 1))] [false, false, true, false] [eLe z0 (v 4), eLe (.bin .add (v 4) (sln (v 1))) (sln (v 0)), .pr 22 [v 3, v 4], .pr 37 [v 0, v 1, v 2, v 3, v 4]] (sln (v 1)) with
 drop := [7, 4, 2]
 mem := [(7, .loop .ready none 68 0 41 [(4, .ptr 2 z0 0 0), (3, .ptr 1 z0 0 0), (2, .ptr 0 z0 0 0)] 6), (4, .cells [.bool (v 2)] true), (2, .cells [.slice 8 z0 (v 4) 2 true] true), (8, .rows fK (v 3) (v 4) true true)]
 nbl := 1 }
def qys : Ann := { ann 11 0 [1, 6, 32] [(33, i64 (v 11)), (7, .slice 6 z0 (v 13) 1 false)] [false, true, false] [eLe z0 (v 11), eLe (v 11) (v 4), eLe z0 (v 13), eLe (v 13) (.bin .add (v 11) (.lit 1)), .pr 64 [v 0, v 1, v 2, v 3, v 11, v 12, v 13]] (.bin .sub (v 4) (v 11)) with
 drop := [5]
 mem := [(6, .rows sK (v 12) (v 13) true false)]
 nbl := 1 }
def qyt : Ann := { ann 12 0 [2, 6, 7, 37, 38] [(39, i64 (v 23))] [false, true, false] [eLe z0 (v 23), eLe (v 23) (.bin .sub (v 2) (.lit 1)), eLe (v 23) (v 25), eLe (v 25) (v 23), .pr 45 [v 24, v 25], .pr 72 [v 1, v 24, v 25]] (.bin .sub (.bin .sub (v 2) (.lit 1)) (v 23)) with
 drop := [4]
 mem := [(4, .cells [i64 (v 11), i64 (v 15), i64 (v 19), .slice 7 z0 (v 25) 8 true] true), (7, .rows stK (v 24) (v 25) true true)]
 nbl := 1 }
def qqG : Ann := { ann 18 0 [2, 5, 7] [(9, i64 (v 8))] [false, true, false] [eLe (.lit 1) (v 8), eLe (v 8) (v 2), eLe (v 8) (.bin .add (v 10) (.lit 1)), eLe (.bin .add (v 10) (.lit 1)) (v 8), .pr 45 [v 9, v 10], .pr 72 [v 1, v 9, v 10]] (.bin .sub (v 2) (v 8)) with
 drop := [2]
 mem := [(2, .cells [i64 (v 4), i64 (v 5), i64 (v 6), .slice 3 z0 (v 10) 8 true] true), (3, .rows stK (v 9) (v 10) true true)]
 nbl := 1 }
def aKw : Ann := { ann 24 0 [2, 4, 6, 7] [(8, i64 (v 5))] [false, false] [eLe (.lit 1) (v 5), eLe (v 5) (.lit 14), eLe z0 (v 6), eLe (v 6) (.lit 13), .pr 57 [v 1, v 5, v 6]] (.bin .sub (.lit 14) (v 5)) with
 drop := [2]
 mem := [(2, .cells [i64 (v 6), .str [], .str [], i64 z0, i64 z0, i64 z0, i64 z0, i64 z0] true)] }
def K5 (lo : Int) (b : Nat) : Ann := { ann 24 2 [2, 6, 11] [(12, i64 (v b)), (4, .slice 1 (.lit lo) (v (b + 4)) 1 true)] [false, false, false, false, false] [eLe z0 (v b), eLe (v b) (v (b + 4)), eLe (v (b + 4)) (.lit 3), .pr 58 [v 1, .lit lo, v b, v (b + 1), v (b + 2), v (b + 3)], eLe (v (b + 4)) (.sel (v 4) (v 6) 3), eLe (.sel (v 4) (v 6) 3) (v (b + 4)), .rng .i64 (v (b + 1)), .rng .i64 (v (b + 2)), .rng .i64 (v (b + 3))] (.bin .sub (v (b + 4)) (v b)) with
 drop := [5]
 mem := [(5, .cells [i64 (v (b + 1)), i64 (v (b + 2)), i64 (v (b + 3))] true)] }
def qyB (P : Program) : Cx := { P, cs := [XB], jr := [], kn := kn }
def qyY (P : Program) : Cx := { P, cs := [U9, Nw], jr := [qb2], kn := kn }
def xName (P : Program) : Cx := { P, cs := [], jr := [aName, qyr], kn := kn }
def qyJ (P : Program) : Cx := { P, cs := [], jr := [qb0], kn := kn }
def qqP (P : Program) : Cx := { P, cs := [qzo, qzi, Ij], jr := [], kn := kn }
def qyQ (P : Program) : Cx := { P, cs := [Ij, Ig], jr := [], kn := kn }
def qyW (P : Program) : Cx := { P, cs := [], jr := [qb1], kn := kn }
def qqS (P : Program) : Cx := { P, cs := [qqQ, Iy, M9, qqe], jr := [qv6], kn := kn }
def qyX (P : Program) : Cx := { P, cs := [], jr := [], kn := kn }
def qyK (P : Program) : Cx := { P, cs := [RA, XV 69], jr := [], kn := kn }
def G9 (f : FuncId) (j : Nat) : Contract := { c0 with fn := 53, sorts := [true, false, false, false], args := [.slice 0 (v 2) (v 3) 1 true, .func f []], mem := [(0, .rows [.int .i64] (v 0) (v 1) false true)], nb := 1, pre := [eLe z0 (v 2), eLe z0 (v 3), eLe (.bin .add (v 2) (v 3)) (v 1), eLe (v 3) (.lit 1000)], outs := [false], res := .bool (v 4), post := [.pr j [v 0, v 2, v 3, v 4]] }
def qgj (f : FuncId) (j : Nat) : Ann := ann 77 0 [0, 7] [(8, i64 (v 4)), (1, .func f [])] [false] [eLe z0 (v 4), eLe (v 4) (v 3), .pr j [v 0, v 2, v 4]] (.bin .sub (v 3) (v 4))
def IG (P : Program) : Cx := { P, cs := [], jr := [qgj 54 83, qgj 55 84], kn := kn }
def IV (P : Program) : Cx := { P, cs := [cName 76, G9 54 81, G9 55 82], jr := [], kn := kt }
def xWr (P : Program) : Cx := { P, cs := [qqK, G8], jr := [], kn := kt }
def mZ (P : Program) : Cx := { P, cs := [Iq 68, RA, Ik], jr := [], kn := kn }
def qyF (P : Program) : Cx := { P, cs := [Nq], jr := [], kn := kt }
def Sb (P : Program) : Cx := { P, cs := [qqW], jr := [qyc], kn := kt }
def qqI (P : Program) : Cx := { P, cs := [Nz, qqo], jr := [], kn := kt }
def Sy (P : Program) : Cx := { P, cs := [xD 14, qqK, G8, qqi], jr := [qys], kn := kt }
def Sg (P : Program) : Cx := { P, cs := [Iw, FR, FN], jr := [], kn := kn }
def Sv (P : Program) : Cx := { P, cs := [pX 29, Iq 68, RA, Ik, dV, xD 14], jr := [qyt], kn := kt }
def qye (P : Program) : Cx := { P, cs := [], jr := [], kn := kn }
def bX (P : Program) : Cx := { P, cs := [FM, cName 59], jr := [], kn := kn }
def Hg (P : Program) : Cx := { P, cs := [], jr := [qgq, qgz], kn := kn }
def qyH (P : Program) : Cx := { P, cs := [FM, yT, Ny, Ng], jr := [], kn := kn }
def Hy (P : Program) : Cx := { P, cs := [qqY], jr := [qqD], kn := kn }
def qyZ (P : Program) : Cx := { P, cs := [FM, FP], jr := [], kn := kn }
def Sw (P : Program) : Cx := { P, cs := [yT, Iz], jr := [], kn := kn }
def qyo (P : Program) : Cx := { P, cs := [Nk], jr := [qbA], kn := kn }
def aG (P : Program) : Cx := { P, cs := [FM, U8, XV 79], jr := [aKw, K5 1 7, K5 2 7, K5 3 7, K5 1 9, K5 2 9, K5 3 9], kn := kn }
def qqO (P : Program) : Cx := { P, cs := [U8, XV 79], jr := [], kn := kn }
def Hq (P : Program) : Cx := { P, cs := [xD 15, FP, Iz], jr := [qqV], kn := kn }
def Hw (P : Program) : Cx := { P, cs := [], jr := [qqB], kn := kn }
def Hz (P : Program) : Cx := { P, cs := [pX 41, Nv, uH, xD 15], jr := [qqG], kn := kn }
def qqT (P : Program) : Cx := { P, cs := [], jr := [qv7], kn := kn }
def qyV (P : Program) : Cx := { P, cs := [], jr := [qb3], kn := kn }
def cAw : Contract := { c0 with fn := 6, res := .bool (.lit 1) }
def Ib : Contract := { c0 with fn := 5, sorts := PG ++ st9, args := [prg 0 0, .agg (Tk fun i => v (i + 5)), str (v 13)], mem := [(0, PD 0)], nb := 1, pre := [eLe z0 (v 4), .rng .i64 (v 4), .pr 71 [v 3, v 4], .rng .i64 (v 0), .rng .i64 (v 1), .rng .i64 (v 2), .rng .i64 (v 5), .rng .i64 (v 8), .rng .i64 (v 9), .rng .i64 (v 10), .rng .i64 (v 11), .rng .i64 (v 12)], res := .bool (.lit 1) }
def qyD (P : Program) : Cx := { P, cs := [cAw, qqZ, xD 14, xD 15, pW 11, pW 16, aY 9, aY 17, pY 12, pY 18, Nj], jr := [], kn := kn }
def ν (n : Nat) : E := .var n
def κ (n : Int) : E := .lit n
def ο : E := .lit 0
def γ (a b : E) : PE := .tt (.bin .le a b)
def ω (a b : E) : PE := .tt (.bin .lt a b)
def ρ (a : E) : PE := .rng .i64 a
def χ (a b : E) : E := .bin .eq a b
def π (a b : E) : E := .bin .add a b
def δ (a b : E) : E := .bin .sub a b
def ξ (t r : E) (c : Nat) : E := .sel t r c
def υ (t r : E) (c : Nat) (x : E) : E := .upd t r c x
def α (p : PE) (t : Tree) : Tree := .assert p t
def μ (p : PE) (t : Tree) : Tree := .assume p t
def β (e : E) (a b : Tree) : Tree := .branch e a b
def η (t : Tree) : Tree := .yQ false t
def τ (t : Tree) : Tree := .yQ true t
end Go.Tt
namespace Go.Tt
open Go Go.Lib Go.Sf
theorem GY {c : UInt8} {r : List UInt8} (h : c.toNat ≠ 48) (h2 : 48 ≤ c.toNat) : 1 ≤ dval 0 (c :: r) := by
 rw [wI]
 have := Qz r (0 * 10 + (c.toNat - 48))
 omega
theorem canon : ∀ (k : Nat) (l : List UInt8), l.length = k → l ≠ [] → (∀ b ∈ l, 48 ≤ b.toNat ∧ b.toNat ≤ 57) → (∀ b, l.head? = some b → b.toNat = 48 → l.length = 1) → decDigits (dval 0 l) = l := by
 intro k
 induction k with
 | zero => intro l hl hne; exact absurd (List.eq_nil_of_length_eq_zero hl) hne
 | succ k ih =>
   intro l hl hne hd hz
   obtain ⟨m, c, rfl⟩ : ∃ m c, l = m ++ [c] := ⟨l.dropLast, l.getLast hne, (List.dropLast_concat_getLast hne).symm⟩
   have hc := hd c (by simp)
   have e1 : dval 0 (m ++ [c]) = dval 0 m * 10 + (c.toNat - 48) := by rw [bn, wI, Z4]
   have ec : UInt8.ofNat (48 + (c.toNat - 48)) = c := by
     rw [show 48 + (c.toNat - 48) = c.toNat by omega, UInt8.ofNat_toNat]
   cases m with
   | nil =>
     rw [e1]
     simp only [dval, List.foldl_nil, Nat.zero_mul, Nat.zero_add, List.nil_append]
     rw [wQ (by omega), ec]
   | cons b m =>
     have hb : b.toNat ≠ 48 := fun h => by
       have := hz b rfl h
       simp at this
     have h48 := hd b (by simp)
     have hp := GY (r := m) hb h48.1
     have ih' := ih (b :: m) (by simpa using hl) (by simp) (fun x hx => hd x (by simp at hx ⊢; rcases hx with h | h; exact .inl h; exact .inr (.inl h))) (fun x hx h => by simp at hx; subst hx; exact absurd h hb)
     rw [e1, lZ (by omega), show (dval 0 (b :: m) * 10 + (c.toNat - 48)) / 10 = dval 0 (b :: m) by omega, show (dval 0 (b :: m) * 10 + (c.toNat - 48)) % 10 = c.toNat - 48 by omega, ih', ec]
theorem Kt {M : Nat} : ∀ (l : List UInt8) (acc v : Nat), parseUintM M acc l = .ok v → v = dval acc l
 | [], acc, v, h => by simp [parseUintM] at h; simp [dval, h]
 | c :: r, acc, v, h => by
   simp only [parseUintM] at h
   split at h
   · split at h
     · cases h
     · split at h
       · cases h
       · rw [wI]; exact Kt r _ v h
   · cases h
theorem Kr {l : List UInt8} {v : Nat} (h : parseUintB 64 l = .ok v) : v = dval 0 l := by
 unfold parseUintB at h
 split at h
 · cases h
 · exact Kt _ _ _ h
def Canon (l : List UInt8) : Prop := l ≠ [] ∧ (∀ b ∈ l, 48 ≤ b.toNat ∧ b.toNat ≤ 57) ∧ ∀ b, l.head? = some b → b.toNat = 48 → l.length = 1
theorem PS {t : List UInt8} {v : Int} (hc : Canon t) (h0 : ¬ t.head? = some 48) (h : parseIntB 64 (45 :: t) = .ok v) : 45 :: t = itoa v := by
 simp only [parseIntB] at h
 have e : (45 : UInt8).toNat = 45 := rfl
 rw [e] at h
 simp only [or_true, if_true] at h
 split at h
 · cases h
 · cases h
 · rename_i u hu
   have h1 := Kr hu
   simp only [not_true_eq_false, false_and, if_false, true_and] at h
   split at h
   · cases h
   · simp only [NumEnd.ok.injEq] at h
     subst h
     have hcan := canon _ t rfl hc.1 hc.2.1 hc.2.2
     have hpos : 1 ≤ u := by
       obtain ⟨c, r, rfl⟩ := List.exists_cons_of_ne_nil hc.1
       rw [h1]
       have hcb := hc.2.1 c (by simp)
       refine GY (fun h => h0 ?_) hcb.1
       have : c = 48 := UInt8.toNat.inj h
       rw [this]; rfl
     unfold itoa
     rw [if_pos (by omega)]
     have : (-(u : Int)).natAbs = u := by omega
     rw [this, h1, hcan]
theorem PN {t : List UInt8} {v : Int} (hc : Canon t) (h : parseIntB 64 t = .ok v) : t = itoa v := by
 have hcan := canon _ t rfl hc.1 hc.2.1 hc.2.2
 obtain ⟨c, r, rfl⟩ := List.exists_cons_of_ne_nil hc.1
 have hcb := hc.2.1 c (by simp)
 simp only [parseIntB] at h
 rw [if_neg (by omega)] at h
 split at h
 · cases h
 · cases h
 · rename_i u hu
   have h1 := Kr hu
   have hn : ¬ c.toNat = 45 := by omega
   simp only [hn, not_false_eq_true, true_and, false_and, if_false] at h
   split at h
   · cases h
   · simp only [NumEnd.ok.injEq] at h
     subst h
     rw [itoa_nonneg, h1, hcan]
def qI : List (List UInt8) → List UInt8
 | [] => []
 | [w] => w
 | w :: l => w ++ 32 :: qI l
def tY : List (List UInt8) → List UInt8
 | [] => []
 | w :: l => w ++ 32 :: tY l
def ji (w : List UInt8) : Prop := w ≠ [] ∧ w.length ≤ 200 ∧ ∀ b ∈ w, 33 ≤ b.toNat ∧ b.toNat ≤ 126 ∧ b.toNat ≠ 34
def Bare (ws : List (List UInt8)) : Prop := ∀ w ∈ ws, ji w
theorem zX (w : List UInt8) (l : List (List UInt8)) : qI (w :: l) = w ++ (if l = [] then [] else 32 :: qI l) := by
 cases l with
 | nil => simp [qI]
 | cons x l => simp [qI]
theorem o9 (l m : List (List UInt8)) : tY (l ++ m) = tY l ++ tY m := by
 induction l with
 | nil => rfl
 | cons w l ih => simp [tY, ih]
theorem uQ (l : List (List UInt8)) (w : List UInt8) : qI (l ++ [w]) = tY l ++ w := by
 induction l with
 | nil => simp [qI, tY]
 | cons x l ih =>
   rw [List.cons_append, zX, if_neg (by simp), ih]
   simp [tY]
theorem ji.no {w : List UInt8} (h : ji w) : (32 : UInt8) ∉ w := fun hm => by
 have := (h.2.2 32 hm).1
 revert this; decide
theorem nP : ∀ {ws : List (List UInt8)}, ws ≠ [] → Bare ws → Lib.split (qI ws) [32] = ws
 | [], h, _ => absurd rfl h
 | [w], _, h => by
   have := (h w (by simp)).no
   simp only [qI]
   exact Qu this
 | w :: x :: l, _, h => by
   have hw := (h w (by simp)).no
   simp only [qI]
   rw [Ql hw, nP (by simp) fun y hy => h y (by simp at hy ⊢; exact .inr hy)]
theorem ZG {ws : List (List UInt8)} (h : ws ≠ []) (hb : Bare ws) : qI ws ≠ [] := by
 cases ws with
 | nil => exact absurd rfl h
 | cons w l =>
   have := (hb w (by simp)).1
   rw [zX]
   intro e
   exact this (List.append_eq_nil_iff.1 e).1
theorem vV {ws vs : List (List UInt8)} (hw : Bare ws) (hv : Bare vs) (h : qI ws = qI vs) : ws = vs := by
 by_cases h1 : ws = []
 · subst h1
   by_cases h2 : vs = []
   · exact h2.symm
   · exact absurd h.symm (ZG h2 hv)
 · by_cases h2 : vs = []
   · subst h2
     exact absurd h (ZG h1 hw)
   · rw [← nP h1 hw, ← nP h2 hv, h]
def I64 (n : Int) : Prop := -9223372036854775808 ≤ n ∧ n ≤ 9223372036854775807
theorem tH : ∀ (k u : Nat), 1 ≤ k → u < 10 ^ k → nDigits u ≤ k
 | 0, _, h, _ => by omega
 | k + 1, u, _, h => by
   by_cases h0 : u < 10
   · rw [nDigits_small h0]; omega
   · rw [nDigits_big h0]
     rw [Nat.pow_succ] at h
     have hk : 1 ≤ k := by
       cases k with
       | zero => simp at h; omega
       | succ k => omega
     have := tH k (u / 10) hk (by omega)
     omega
theorem KI (u : Nat) : (decDigits u).length = nDigits u := by rw [decDigits_eq]; simp
theorem jB {m : Int} (h : I64 m) : (itoa m).length ≤ 20 := by
 have h1 := tH 19 m.natAbs (by omega) (by obtain ⟨h0, h1⟩ := h; omega)
 unfold itoa
 split
 · simp only [List.length_cons, KI]; omega
 · rw [KI]
   have : m.toNat = m.natAbs := by omega
   rw [this]; omega
theorem jP {a b : Int} (ha : I64 a) (hb : I64 b) (h : itoa a = itoa b) : a = b := by
 have h1 := tX ha.1 ha.2
 have h2 := tX hb.1 hb.2
 rw [h, h2] at h1
 cases h1; rfl
theorem wC {n : Int} (h : I64 n) : ji (itoa n) := by
 refine ⟨ER n, ?_, fun b hb => ?_⟩
 · have := jB h; omega
 · have := L6 n b hb; omega
def kw : List (List UInt8) := [[], [99, 114, 101, 97, 116, 101], [100, 101, 115, 116, 114, 111, 121], [97, 108, 108, 111, 99], [109, 97, 114, 107], [114, 101, 119, 105, 110, 100], [114, 101, 115, 101, 116], [108, 111, 97, 100], [115, 116, 111, 114, 101], [116, 105, 99, 107], [112, 117, 114, 103, 101], [108, 105, 109, 105, 116], [114, 101, 102, 117, 115, 101], [104, 117, 103, 101]]
def wIs : List UInt8 := [105, 115]
def za : List UInt8 := [102, 97, 105, 108, 115]
def kar : Nat → Nat
 | 1 => 1
 | 2 | 3 | 4 | 5 | 6 | 7 | 8 | 13 => 2
 | _ => 0
def knm : Nat → Nat
 | 3 | 4 => 1
 | 5 | 7 | 8 => 2
 | _ => 0
def qW : Nat → Nat
 | 1 | 12 => 3
 | 3 | 8 => 2
 | 7 | 9 | 11 => 1
 | _ => 0
structure Sp where
 k : Nat
 a : List UInt8
 m : List UInt8
 x : Int
 y : Int
 z : Int
 w : Int
 n : Int
def Sp.wd (s : Sp) : List (List UInt8) :=
 kw.getD s.k [] :: ((if kar s.k = 0 then [] else [s.a]) ++ (if knm s.k = 0 then [] else [s.m]) ++ (([s.x, s.y, s.z].take (qW s.k)).map itoa) ++
   (if s.w = 1 then [wIs, itoa s.n] else if s.w = 2 then [za, itoa s.n] else []))
structure Sp.Norm (s : Sp) : Prop where
 k : 1 ≤ s.k ∧ s.k ≤ 13
 a : kar s.k = 0 → s.a = []
 m : knm s.k = 0 → s.m = []
 x : I64 s.x ∧ (qW s.k < 1 → s.x = 0)
 y : I64 s.y ∧ (qW s.k < 2 → s.y = 0)
 z : I64 s.z ∧ (qW s.k < 3 → s.z = 0)
 w : s.w = 0 ∨ s.w = 1 ∨ s.w = 2
 n : I64 s.n ∧ (s.w = 0 → s.n = 0)
theorem EW : ∀ a b : Fin 14, kw.getD a [] = kw.getD b [] → a = b := by decide
theorem Fg {k l : Nat} (hk : k ≤ 13) (hl : l ≤ 13) (h : kw.getD k [] = kw.getD l []) : k = l := by
 have := EW ⟨k, by omega⟩ ⟨l, by omega⟩ h
 exact congrArg Fin.val this
theorem LH : ∀ a : Fin 14, 1 ≤ a.val → kw.getD a [] ≠ [] ∧ (kw.getD a []).length ≤ 200 ∧ ∀ b ∈ kw.getD a [], 33 ≤ b.toNat ∧ b.toNat ≤ 126 ∧ b.toNat ≠ 34 := by decide
theorem EY {k : Nat} (h : 1 ≤ k ∧ k ≤ 13) : ji (kw.getD k []) := LH ⟨k, by omega⟩ h.1
theorem LD {k : Nat} (h : k ≤ 13) : (kw.getD k []).length ≤ 7 := by
 have : ∀ a : Fin 14, (kw.getD a []).length ≤ 7 := by decide
 exact this ⟨k, by omega⟩
theorem Wp (s : Sp) : s.wd.length ≤ 8 := by
 have hn : qW s.k ≤ 3 := by unfold qW; split <;> omega
 unfold Sp.wd
 simp only [List.length_cons, List.length_append, List.length_map, List.length_take, List.length_nil]
 split <;> split <;> split <;> (try split) <;> simp <;> omega
theorem qzW {s t : Sp} (hs : s.Norm) (ht : t.Norm) (h : s.wd = t.wd) : s = t := by
 obtain ⟨k, a, m, x, y, z, w, n⟩ := s
 obtain ⟨k', a', m', x', y', z', w', n'⟩ := t
 obtain ⟨s1, s2, s3, s4, s5, s6, s7, s8⟩ := hs
 obtain ⟨t1, t2, t3, t4, t5, t6, t7, t8⟩ := ht
 simp only at *
 unfold Sp.wd at h
 simp only [List.cons.injEq] at h
 obtain ⟨h1, h2⟩ := h
 have hk := Fg (by omega) (by omega) h1
 subst hk
 have key : ∀ {l l' r r' : List (List UInt8)}, l.length = l'.length → l ++ r = l' ++ r' → l = l' ∧ r = r' := fun hl he => List.append_inj he hl
 obtain ⟨h2, h3⟩ := key (by simp only [List.length_append, List.length_map, List.length_take, List.length_cons, List.length_nil]; split <;> split <;> rfl) h2
 obtain ⟨h2, h4⟩ := key (by split <;> split <;> rfl) h2
 obtain ⟨h2, h5⟩ := key (by split <;> rfl) h2
 have ha : a = a' := by
   by_cases h0 : kar k = 0
   · rw [s2 h0, t2 h0]
   · rw [if_neg h0, if_neg h0] at h2
     exact (List.cons.inj h2).1
 have hm : m = m' := by
   by_cases h0 : knm k = 0
   · rw [s3 h0, t3 h0]
   · rw [if_neg h0, if_neg h0] at h5
     exact (List.cons.inj h5).1
 have hwn : w = w' ∧ n = n' := by
   have d : wIs ≠ za := by decide
   rcases s7 with rfl | rfl | rfl <;> rcases t7 with rfl | rfl | rfl <;> simp at h3
   · exact ⟨rfl, by rw [s8.2 rfl, t8.2 rfl]⟩
   · exact ⟨rfl, jP s8.1 t8.1 h3⟩
   · exact absurd h3.1 d
   · exact absurd h3.1.symm d
   · exact ⟨rfl, jP s8.1 t8.1 h3⟩
 have hn : qW k = 0 ∨ qW k = 1 ∨ qW k = 2 ∨ qW k = 3 := by
   have : qW k ≤ 3 := by unfold qW; split <;> omega
   omega
 obtain ⟨rfl, rfl⟩ := hwn
 subst ha; subst hm
 have qbb : x = x' ∧ y = y' ∧ z = z' := by
   rcases hn with hn | hn | hn | hn <;> rw [hn] at h4 s4 s5 s6 t4 t5 t6 <;> simp at h4
   · exact ⟨by rw [s4.2 (by omega), t4.2 (by omega)], by rw [s5.2 (by omega), t5.2 (by omega)], by rw [s6.2 (by omega), t6.2 (by omega)]⟩
   · exact ⟨jP s4.1 t4.1 h4, by rw [s5.2 (by omega), t5.2 (by omega)], by rw [s6.2 (by omega), t6.2 (by omega)]⟩
   · exact ⟨jP s4.1 t4.1 h4.1, jP s5.1 t5.1 h4.2, by rw [s6.2 (by omega), t6.2 (by omega)]⟩
   · exact ⟨jP s4.1 t4.1 h4.1, jP s5.1 t5.1 h4.2.1, jP s6.1 t6.1 h4.2.2⟩
 obtain ⟨rfl, rfl, rfl⟩ := qbb
 rfl
def Sp.NB (s : Sp) : Prop := (kar s.k ≠ 0 → ji s.a) ∧ (knm s.k ≠ 0 → ji s.m)
theorem xR {s : Sp} (hs : s.Norm) (hb : s.NB) : Bare s.wd := by
 intro w hw
 unfold Sp.wd at hw
 simp only [List.mem_cons, List.mem_append] at hw
 rcases hw with rfl | ((hw | hw) | hw) | hw
 · exact EY hs.k
 · split at hw
   · cases hw
   · rename_i h; simp at hw; subst hw; exact hb.1 h
 · split at hw
   · cases hw
   · rename_i h; simp at hw; subst hw; exact hb.2 h
 · obtain ⟨q, h1, rfl⟩ := List.mem_map.1 hw
   have h2 := List.mem_of_mem_take h1
   simp at h2
   rcases h2 with rfl | rfl | rfl
   · exact wC hs.x.1
   · exact wC hs.y.1
   · exact wC hs.z.1
 · have b1 : ji wIs := by unfold ji; decide
   have b2 : ji za := by unfold ji; decide
   split at hw
   · simp at hw
     rcases hw with rfl | rfl
     · exact b1
     · exact wC hs.n.1
   · split at hw
     · simp at hw
       rcases hw with rfl | rfl
       · exact b2
       · exact wC hs.n.1
     · cases hw
def Sp.line (s : Sp) : List UInt8 := qI s.wd
theorem LY {s t : Sp} (hs : s.Norm) (hsb : s.NB) (ht : t.Norm) (htb : t.NB) (h : s.line = t.line) : s = t := qzW hs ht (vV (xR hs hsb) (xR ht htb) h)
def rG (b : UInt8) : Bool := decide (97 ≤ b.toNat ∧ b.toNat ≤ 122) || decide (65 ≤ b.toNat ∧ b.toNat ≤ 90)
def VH (b : UInt8) : Bool := rG b || decide (48 ≤ b.toNat ∧ b.toNat ≤ 57) || decide (b.toNat = 95)
def xM (l : List UInt8) : Prop := 1 ≤ l.length ∧ l.length ≤ 16 ∧ (∀ b, l.head? = some b → rG b = true) ∧ ∀ b ∈ l, VH b = true
instance (l : List UInt8) : Decidable (xM l) := by
 unfold xM
 cases l with
 | nil => exact isFalse fun h => by have := h.1; simp at this
 | cons c r => exact decidable_of_iff (1 ≤ (c :: r).length ∧ (c :: r).length ≤ 16 ∧ rG c = true ∧ ∀ b ∈ c :: r, VH b = true) (by simp)
theorem xM.bare {l : List UInt8} (h : xM l) : ji l := by
 obtain ⟨h1, h2, _, h4⟩ := h
 refine ⟨fun e => by subst e; simp at h1, by omega, fun b hb => ?_⟩
 have := h4 b hb
 simp only [VH, rG, Bool.or_eq_true, decide_eq_true_eq] at this
 omega
def Big (n : Int) : Prop := n < -1000000000000 ∨ 1000000000000 < n
instance (n : Int) : Decidable (Big n) := by unfold Big; infer_instance
def wM (k : Int) (a m : List UInt8) (x y z w n : Int) : Int :=
 if k < 1 ∨ 13 < k ∨ w < 0 ∨ 2 < w ∨ (w = 0 ∧ n ≠ 0) then 2 else
 if (kar k.toNat = 0 ∧ a ≠ []) ∨ (knm k.toNat = 0 ∧ m ≠ []) ∨ (qW k.toNat < 1 ∧ x ≠ 0) ∨ (qW k.toNat < 2 ∧ y ≠ 0) ∨ (qW k.toNat < 3 ∧ z ≠ 0) then 2 else
 if (kar k.toNat ≠ 0 ∧ ¬ xM a) ∨ (knm k.toNat ≠ 0 ∧ ¬ xM m) then 6 else
 if Big x ∨ Big y ∨ Big z ∨ (w = 1 ∧ Big n) ∨ (w = 2 ∧ (n < 1 ∨ 999 < n)) then 7 else 0
theorem Dy {k : Int} {a m : List UInt8} {x y z w n : Int} (hn : I64 n) (h : wM k a m x y z w n = 0) : Sp.Norm ⟨k.toNat, a, m, x, y, z, w, n⟩ ∧ Sp.NB ⟨k.toNat, a, m, x, y, z, w, n⟩ ∧ k = k.toNat := by
 unfold wM at h
 split at h
 · cases h
 · rename_i h1
   split at h
   · cases h
   · rename_i h2
     split at h
     · cases h
     · rename_i h3
       split at h
       · cases h
       · rename_i h4
         unfold Big at h4
         have nx : I64 x := ⟨by omega, by omega⟩
         have ny : I64 y := ⟨by omega, by omega⟩
         have nz : I64 z := ⟨by omega, by omega⟩
         have e1 : ∀ {p q : Prop}, ¬ (p ∧ ¬ q) → p → q := fun h hp => Classical.byContradiction fun hq => h ⟨hp, hq⟩
         refine ⟨⟨?_, ?_, ?_, ⟨nx, ?_⟩, ⟨ny, ?_⟩, ⟨nz, ?_⟩, ?_, ⟨hn, ?_⟩⟩, ⟨fun h => ?_, fun h => ?_⟩, by omega⟩
         · exact ⟨by simp; omega, by simp; omega⟩
         · intro h; exact e1 (fun hh => h2 (.inl hh)) h
         · intro h; exact e1 (fun hh => h2 (.inr (.inl hh))) h
         · intro h; exact e1 (fun hh => h2 (.inr (.inr (.inl hh)))) h
         · intro h; exact e1 (fun hh => h2 (.inr (.inr (.inr (.inl hh))))) h
         · intro h; exact e1 (fun hh => h2 (.inr (.inr (.inr (.inr hh))))) h
         · show w = 0 ∨ w = 1 ∨ w = 2; omega
         · intro h; show n = 0; have h : w = 0 := h; omega
         · exact (e1 (fun hh => h3 (.inl hh)) h).bare
         · exact (e1 (fun hh => h3 (.inr hh)) h).bare
end Go.Tt
