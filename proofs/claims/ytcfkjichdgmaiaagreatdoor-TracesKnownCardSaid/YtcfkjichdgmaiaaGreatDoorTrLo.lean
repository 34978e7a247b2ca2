/-
  Memory in which one byte is not zero: its parts. Conditions: none.
-/
import Derived.Test.YtcfkjichdgmaiaaGreatDoorMgT
namespace Go.Mg
open Go Go.Sx
variable {I : Itp}
def tMem1 : E := .upd .zt (.lit 2) 0 (.lit 549755813888)
/-- Byte 39 of page 2 is not zero. -/
def cState1 : Contract := { c0 with fn := 250, args := [.ptr 0 (.lit 0) 0 0], mem := [(0, .big [] [.int .u64] tMem1 1024 [] false)], nb := 1, res := .agg [.slice 1 (.lit 0) (.lit 1) 2 false], fresh := [(1, .cells [i64 (.lit 2), .slice 2 (.lit 0) (.lit 1) 2 false] true), (2, .rows [.int .i64, .int .i64] (.upd (.upd .zt (.lit 0) 0 (.lit 39)) (.lit 0) 1 (.lit 1)) (.lit 1) true false)] }
def aState1 : Ann where
  fn := 250
  bid := 0
  keep := [6, 3, 2, 0]
  tmps := [(7, i64 (v 0))]
  drop := [2]
  mem := [(2, .cells [.slice 6 (.lit 0) (.lit 1) 2 false] true)]
  sorts := [false]
  nbl := 0
  inv := [eLe (.lit 3) (v 0), eLe (v 0) (.lit 1024)]
  meas := .bin .sub (.lit 1024) (v 0)
def xState1 (P : Program) : Cx := { P, cs := [], anns := [aState1], kn := kn }
def tState1 : Tree := (.havoc false (.assume (.tt (.bin .le (.lit 3) (.var 0))) (.assume (.tt (.bin .le (.var 0) (.lit 1024))) (.branch (.bin .lt (.var 0) (.lit 1024)) (.assert (.tt (.bin .le (.lit 0) (.var 0))) (.branch (.bin .eq (.bin .eq (.sel (.upd .zt (.lit 2) 0 (.lit 549755813888)) (.var 0) 0) (.lit 0)) (.lit 0)) (.branch (.bin .eq (.bin .eq (.bin (.bits 5 .u64) (.sel (.upd .zt (.lit 2) 0 (.lit 549755813888)) (.var 0) 0) (.lit 0)) (.lit 0)) (.lit 0)) (.fail 20) (.assert (.rng .i64 (.bin .add (.var 0) (.lit 1))) (.fail 61))) (.assert (.rng .i64 (.bin .add (.var 0) (.lit 1))) (.assert (.tt (.bin .le (.lit 3) (.bin .add (.var 0) (.lit 1)))) (.assert (.tt (.bin .le (.bin .add (.var 0) (.lit 1)) (.lit 1024))) (.assert (.tt (.bin .le (.lit 0) (.bin .sub (.lit 1024) (.bin .add (.var 0) (.lit 1))))) (.assert (.tt (.bin .lt (.bin .sub (.lit 1024) (.bin .add (.var 0) (.lit 1))) (.bin .sub (.lit 1024) (.var 0)))) .ok))))))) .ok))))
theorem vState1 : ∀ ds, Sorts cState1.sorts ds → tState1.vc I ds := by
  refine all_n ?_
  set_option linter.unusedSimpArgs false in
  simp only [tState1, Tree.vc, PE.den, E.den, dens, BO.ev, List.getElem?_cons_zero, List.getElem?_cons_succ, List.cons_append, List.nil_append, Option.some.injEq, D.i.injEq, D.t.injEq, exists_eq_left', exists_const, forall_const, forall_eq', one_ne, one_eq, zero_ne, zero_eq, min_i64, max_i64, min_u8, max_u8, min_u16, max_u16, min_u32, max_u32, min_u64, max_u64, and_true, true_and]
  intro x h0 h1
  refine ⟨fun h => ?_, fun _ => trivial⟩
  have hx : tupd (fun _ _ => 0) 2 0 549755813888 x 0 = 0 := by simp only [tupd]; rw [if_neg (by omega)]
  rw [hx]
  repeat' (first | omega | (intro _) | (refine And.intro ?_ ?_) | trivial)
end Go.Mg
