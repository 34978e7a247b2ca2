/-
  The parts of Save in the example: states before and behind, and what the loops over all pages keep. Conditions: none.
-/
import Derived.Test.YtbcclmpmljpbcaaGreatDoorMgCs
namespace Go.Mg
open Go Go.Sx
set_option maxRecDepth 10000
def cV43 : Contract where
  fn := 45
  sorts := []
  args := [(.ptr 0 (.lit 0) 0 0)]
  mem := [(0, .big [(.bool (.lit 1))] pgK (.upd (.upd (.upd (.upd (.upd (.upd (.upd (.upd .zt (.lit 0) 0 (.lit 3)) (.lit 1) 0 (.lit 2)) (.lit 2) 0 (.lit 2)) (.lit 3) 0 (.lit 1)) (.lit 4) 0 (.lit 1)) (.lit 5) 0 (.lit 1)) (.lit 6) 0 (.lit 1)) (.lit 7) 0 (.lit 3)) 1024 [.nilslice, (.int .i64 (.lit 1)), (.int .i64 (.lit 0)), (.int .i64 (.lit 1)), (.int .i64 (.lit 0)), (.int .i64 (.lit 2)), (.int .i64 (.lit 0)), (.int .i64 (.lit 0)), (.int .i64 (.lit 0)), (.int .i64 (.lit 0)), (.int .i64 (.lit 0)), (.int .i64 (.lit 0)), (.int .i64 (.lit 0)), (.int .i64 (.lit 0)), (.int .i64 (.lit 0))] true)]
  nb := 1
  pre := []
  outs := []
  res := (.agg [(.slice 1 (.lit 0) (.lit 4) 3 false), .nilslice, .nilslice, .nilslice, (.int .i64 (.lit 1)), (.int .i64 (.lit 0)), (.int .i64 (.lit 1)), (.int .i64 (.lit 0)), (.int .i64 (.lit 2)), (.int .i64 (.lit 0)), (.int .i64 (.lit 0)), (.int .i64 (.lit 0)), (.int .i64 (.lit 0)), (.int .i64 (.lit 0)), (.int .i64 (.lit 0)), (.int .i64 (.lit 0)), (.int .i64 (.lit 0)), (.int .i64 (.lit 0))])
  mods := [(0, .big [(.bool (.lit 1))] pgK (.upd (.upd (.upd (.upd (.upd (.upd (.upd (.upd .zt (.lit 0) 0 (.lit 3)) (.lit 1) 0 (.lit 2)) (.lit 2) 0 (.lit 2)) (.lit 3) 0 (.lit 1)) (.lit 4) 0 (.lit 1)) (.lit 5) 0 (.lit 1)) (.lit 6) 0 (.lit 1)) (.lit 7) 0 (.lit 3)) 1024 [.nilslice, (.int .i64 (.lit 1)), (.int .i64 (.lit 0)), (.int .i64 (.lit 1)), (.int .i64 (.lit 0)), (.int .i64 (.lit 2)), (.int .i64 (.lit 0)), (.int .i64 (.lit 0)), (.int .i64 (.lit 0)), (.int .i64 (.lit 0)), (.int .i64 (.lit 0)), (.int .i64 (.lit 0)), (.int .i64 (.lit 0)), (.int .i64 (.lit 0)), (.int .i64 (.lit 0))] true)]
  fresh := [(1, .rows [(.int .i64), (.int .i64), (.int .i64)] (.upd (.upd (.upd (.upd (.upd (.upd (.upd (.upd (.upd (.upd (.upd .zt (.lit 0) 1 (.lit 1)) (.lit 0) 2 (.lit 3)) (.lit 1) 0 (.lit 1)) (.lit 1) 1 (.lit 2)) (.lit 1) 2 (.lit 2)) (.lit 2) 0 (.lit 3)) (.lit 2) 1 (.lit 4)) (.lit 2) 2 (.lit 1)) (.lit 3) 0 (.lit 7)) (.lit 3) 1 (.lit 1)) (.lit 3) 2 (.lit 3)) (.lit 4) true false)]
  post := []
def cB44 : Contract where
  fn := 46
  sorts := []
  args := [(.ptr 0 (.lit 0) 0 0)]
  mem := [(0, .big [(.bool (.lit 1)), (.int .i64 (.lit 10))] [(.int .u64)] (.upd (.upd (.upd (.upd (.upd (.upd (.upd (.upd (.upd .zt (.lit 160) 0 (.lit 0)) (.lit 152) 0 (.lit 1)) (.lit 132) 0 (.lit 1)) (.lit 114) 0 (.lit 1)) (.lit 97) 0 (.lit 1)) (.lit 80) 0 (.lit 4294967296)) (.lit 64) 0 (.lit 65536)) (.lit 48) 0 (.lit 256)) (.lit 224) 0 (.lit 1)) 352 [] true)]
  nb := 1
  pre := []
  outs := []
  res := (.agg [(.int .i64 (.lit 10)), (.slice 1 (.lit 0) (.lit 1) 2 false)])
  mods := [(0, .big [(.bool (.lit 1)), (.int .i64 (.lit 10))] [(.int .u64)] (.upd (.upd (.upd (.upd (.upd (.upd (.upd (.upd (.upd .zt (.lit 160) 0 (.lit 0)) (.lit 152) 0 (.lit 1)) (.lit 132) 0 (.lit 1)) (.lit 114) 0 (.lit 1)) (.lit 97) 0 (.lit 1)) (.lit 80) 0 (.lit 4294967296)) (.lit 64) 0 (.lit 65536)) (.lit 48) 0 (.lit 256)) (.lit 224) 0 (.lit 1)) 352 [] true)]
  fresh := [(1, .rows [(.int .i64), (.int .i64)] (.upd .zt (.lit 0) 1 (.lit 3)) (.lit 1) true false)]
  post := []
/-- The pages from 8 on are all free: one more run, which is not kept. -/
def aRunsO : Ann where
  fn := 194
  bid := 0
  keep := [0, 1]
  tmps := [(3, i64 (v 0))]
  drop := [4]
  mem := [(4, .cells [.slice 22 (.lit 0) (.lit 4) 3 false] true)]
  sorts := [false]
  nbl := 0
  inv := [eLe (.lit 8) (v 0), eLe (v 0) (.lit 1024), .tt (.bin .or (.bin .eq (v 0) (.lit 8)) (.bin .eq (v 0) (.lit 1024)))]
  meas := .bin .sub (.lit 1024) (v 0)
def aRunsI : Ann where
  fn := 194
  bid := 2
  keep := [0, 1, 4]
  tmps := [(3, i64 (v 1))]
  drop := [23]
  mem := [(23, .cells [i64 (v 0), i64 (v 2), i64 (v 3)] true)]
  sorts := [false, false, false]
  nbl := 0
  inv := [eLe (v 0) (v 1), eLe (v 1) (.lit 1024), .same (v 2) (.bin .sub (v 1) (v 0)), .same (v 3) (.lit 0)]
  meas := .bin .sub (.lit 1024) (v 1)
/-- No page is huge, and none has data. -/
def aPages : Ann where
  fn := 45
  bid := 0
  keep := [0, 2, 3]
  tmps := [(28, i64 (v 1))]
  drop := []
  mem := []
  sorts := [false]
  nbl := 0
  inv := [eLe (.lit 0) (v 1), eLe (v 1) (.lit 1024)]
  meas := .bin .sub (.lit 1024) (v 1)
/-- Behind the only block that is given. -/
def aGiven : Ann where
  fn := 269
  bid := 0
  keep := [0, 1]
  tmps := [(4, i64 (v 0))]
  drop := [2]
  mem := [(2, .cells [.slice 20 (.lit 0) (.lit 1) 2 false] true)]
  sorts := [false]
  nbl := 0
  inv := [eLe (.lit 1) (v 0), eLe (v 0) (.lit 1024)]
  meas := .bin .sub (.lit 1024) (v 0)
def xSv (P : Program) : Cx := { P, cs := loops, anns := [aRunsO, aRunsI, aPages, aGiven], kn := kn }
end Go.Mg

namespace Go.Mg
open Go Go.Sx
variable {I : Itp}
set_option maxRecDepth 10000
def tV43 : Tree := (.havoc false (.assume (.tt (.bin .le (.lit 8) (.var 0))) (.assume (.tt (.bin .le (.var 0) (.lit 1024))) (.assume (.tt (.bin .or (.bin .eq (.var 0) (.lit 8)) (.bin .eq (.var 0) (.lit 1024)))) (.branch (.bin .lt (.var 0) (.lit 1024)) (.assert (.tt (.bin .le (.lit 0) (.var 0))) (.assert (.tt (.bin .le (.var 0) (.var 0))) (.assert (.same (.lit 0) (.bin .sub (.var 0) (.var 0))) (.assert (.same (.sel (.upd (.upd (.upd (.upd (.upd (.upd (.upd (.upd .zt (.lit 0) 0 (.lit 3)) (.lit 1) 0 (.lit 2)) (.lit 2) 0 (.lit 2)) (.lit 3) 0 (.lit 1)) (.lit 4) 0 (.lit 1)) (.lit 5) 0 (.lit 1)) (.lit 6) 0 (.lit 1)) (.lit 7) 0 (.lit 3)) (.var 0) 0) (.lit 0)) (.havoc false (.havoc false (.havoc false (.assume (.tt (.bin .le (.var 0) (.var 1))) (.assume (.tt (.bin .le (.var 1) (.lit 1024))) (.assume (.same (.var 2) (.bin .sub (.var 1) (.var 0))) (.assume (.same (.var 3) (.lit 0)) (.branch (.bin .lt (.var 1) (.lit 1024)) (.assert (.tt (.bin .le (.lit 0) (.var 1))) (.branch (.bin .eq (.sel (.upd (.upd (.upd (.upd (.upd (.upd (.upd (.upd .zt (.lit 0) 0 (.lit 3)) (.lit 1) 0 (.lit 2)) (.lit 2) 0 (.lit 2)) (.lit 3) 0 (.lit 1)) (.lit 4) 0 (.lit 1)) (.lit 5) 0 (.lit 1)) (.lit 6) 0 (.lit 1)) (.lit 7) 0 (.lit 3)) (.var 1) 0) (.lit 0)) (.assert (.rng .i64 (.bin .add (.var 1) (.lit 1))) (.assert (.rng .i64 (.bin .add (.bin .sub (.var 1) (.var 0)) (.lit 1))) (.assert (.tt (.bin .le (.var 0) (.bin .add (.var 1) (.lit 1)))) (.assert (.tt (.bin .le (.bin .add (.var 1) (.lit 1)) (.lit 1024))) (.assert (.same (.bin .add (.bin .sub (.var 1) (.var 0)) (.lit 1)) (.bin .sub (.bin .add (.var 1) (.lit 1)) (.var 0))) (.assert (.tt (.bin .le (.lit 0) (.bin .sub (.lit 1024) (.bin .add (.var 1) (.lit 1))))) (.assert (.tt (.bin .lt (.bin .sub (.lit 1024) (.bin .add (.var 1) (.lit 1))) (.bin .sub (.lit 1024) (.var 1)))) .ok))))))) (.assert (.tt (.bin .le (.lit 8) (.var 1))) (.assert (.tt (.bin .or (.bin .eq (.var 1) (.lit 8)) (.bin .eq (.var 1) (.lit 1024)))) (.assert (.tt (.bin .le (.lit 0) (.bin .sub (.lit 1024) (.var 1)))) (.assert (.tt (.bin .lt (.bin .sub (.lit 1024) (.var 1)) (.bin .sub (.lit 1024) (.var 0)))) .ok)))))) (.assert (.tt (.bin .le (.lit 8) (.var 1))) (.assert (.tt (.bin .or (.bin .eq (.var 1) (.lit 8)) (.bin .eq (.var 1) (.lit 1024)))) (.assert (.tt (.bin .le (.lit 0) (.bin .sub (.lit 1024) (.var 1)))) (.assert (.tt (.bin .lt (.bin .sub (.lit 1024) (.var 1)) (.bin .sub (.lit 1024) (.var 0)))) .ok)))))))))))))))) (.havoc false (.assume (.tt (.bin .le (.lit 0) (.var 1))) (.assume (.tt (.bin .le (.var 1) (.lit 1024))) (.branch (.bin .lt (.var 1) (.lit 1024)) (.branch (.bin .eq (.bin .tmod (.var 1) (.lit 16)) (.lit 0)) (.assert (.rng .i64 (.bin .add (.var 1) (.lit 1))) (.assert (.tt (.bin .le (.lit 0) (.bin .add (.var 1) (.lit 1)))) (.assert (.tt (.bin .le (.bin .add (.var 1) (.lit 1)) (.lit 1024))) (.assert (.tt (.bin .le (.lit 0) (.bin .sub (.lit 1024) (.bin .add (.var 1) (.lit 1))))) (.assert (.tt (.bin .lt (.bin .sub (.lit 1024) (.bin .add (.var 1) (.lit 1))) (.bin .sub (.lit 1024) (.var 1)))) .ok))))) (.assert (.rng .i64 (.bin .add (.var 1) (.lit 1))) (.assert (.tt (.bin .le (.lit 0) (.bin .add (.var 1) (.lit 1)))) (.assert (.tt (.bin .le (.bin .add (.var 1) (.lit 1)) (.lit 1024))) (.assert (.tt (.bin .le (.lit 0) (.bin .sub (.lit 1024) (.bin .add (.var 1) (.lit 1))))) (.assert (.tt (.bin .lt (.bin .sub (.lit 1024) (.bin .add (.var 1) (.lit 1))) (.bin .sub (.lit 1024) (.var 1)))) .ok)))))) .ok)))))))))
def tB44 : Tree := (.havoc false (.assume (.tt (.bin .le (.lit 1) (.var 0))) (.assume (.tt (.bin .le (.var 0) (.lit 1024))) (.branch (.bin .lt (.var 0) (.lit 1024)) (.assert (.tt (.bin .le (.lit 0) (.bin (.bits 6 .i64) (.var 0) (.lit 64)))) (.assert (.tt (.bin .lt (.bin (.bits 6 .i64) (.var 0) (.lit 64)) (.lit 16))) (.assert (.tt (.bin .le (.lit 0) (.bin .add (.bin (.bits 6 .i64) (.var 0) (.lit 64)) (.lit 224)))) (.assert (.tt (.bin .lt (.bin .add (.bin (.bits 6 .i64) (.var 0) (.lit 64)) (.lit 224)) (.lit 352))) (.assert (.tt (.bin .le (.lit 0) (.bin .tmod (.var 0) (.lit 64)))) (.branch (.bin .eq (.bin (.bits 0 .u64) (.bin (.bits 5 .u64) (.sel (.upd (.upd (.upd (.upd (.upd (.upd (.upd (.upd (.upd .zt (.lit 160) 0 (.lit 0)) (.lit 152) 0 (.lit 1)) (.lit 132) 0 (.lit 1)) (.lit 114) 0 (.lit 1)) (.lit 97) 0 (.lit 1)) (.lit 80) 0 (.lit 4294967296)) (.lit 64) 0 (.lit 65536)) (.lit 48) 0 (.lit 256)) (.lit 224) 0 (.lit 1)) (.bin .add (.bin (.bits 6 .i64) (.var 0) (.lit 64)) (.lit 224)) 0) (.bin .tmod (.var 0) (.lit 64))) (.lit 1)) (.lit 1)) (.assert (.rng .i64 (.bin .add (.var 0) (.lit 1))) (.fail 61)) (.assert (.rng .i64 (.bin .add (.var 0) (.lit 1))) (.assert (.tt (.bin .le (.lit 1) (.bin .add (.var 0) (.lit 1)))) (.assert (.tt (.bin .le (.bin .add (.var 0) (.lit 1)) (.lit 1024))) (.assert (.tt (.bin .le (.lit 0) (.bin .sub (.lit 1024) (.bin .add (.var 0) (.lit 1))))) (.assert (.tt (.bin .lt (.bin .sub (.lit 1024) (.bin .add (.var 0) (.lit 1))) (.bin .sub (.lit 1024) (.var 0)))) .ok))))))))))) .ok))))

theorem far {f : Int → Nat → Int} {r x v : Int} {c : Nat} (h : x ≠ r) : tupd f r c v x 0 = f x 0 := by simp [tupd, h]
theorem pages_free {x : Int} (h : 8 ≤ x) : tupd (tupd (tupd (tupd (tupd (tupd (tupd (tupd (fun _ _ => 0) 0 0 3) 1 0 2) 2 0 2) 3 0 1) 4 0 1) 5 0 1) 6 0 1) 7 0 3 x 0 = 0 := by
  rw [far (by omega), far (by omega), far (by omega), far (by omega), far (by omega), far (by omega), far (by omega), far (by omega)]
theorem shr_one : ∀ k : Fin 64, k.val ≠ 0 → bitsEv 5 .u64 1 (k.val : Int) = 0 := by decide
theorem given_none {x : Int} (h1 : 1 ≤ x) (h2 : x < 1024) : bitsEv 0 .u64 (bitsEv 5 .u64 (tupd (tupd (tupd (tupd (tupd (tupd (tupd (tupd (tupd (fun _ _ => 0) 160 0 0) 152 0 1) 132 0 1) 114 0 1) 97 0 1) 80 0 4294967296) 64 0 65536) 48 0 256) 224 0 1 (x / 64 + 224) 0) (x % 64)) 1 = 0 := by
  by_cases h : x < 64
  · have e : x / 64 + 224 = 224 := by omega
    have e2 : x % 64 = x := by omega
    rw [e, e2]
    have := shr_one ⟨x.toNat, by omega⟩ (by simp only; omega)
    simp only [show ((x.toNat : Nat) : Int) = x by omega] at this
    simp only [tupd, and_self, if_true, this]
    rfl
  · rw [far (by omega), far (by omega), far (by omega), far (by omega), far (by omega), far (by omega), far (by omega), far (by omega), far (by omega)]
    exact bits_zero _
theorem vV43 : ∀ ds, Sorts cV43.sorts ds → tV43.vc I ds := by
  refine all_n ?_
  set_option linter.unusedSimpArgs false in
  simp only [tV43, Tree.vc, PE.den, E.den, dens, BO.ev, List.getElem?_cons_zero, List.getElem?_cons_succ, List.cons_append, List.nil_append, Option.some.injEq, D.i.injEq, D.t.injEq, exists_eq_left', exists_const, forall_const, forall_eq', one_ne, one_eq, zero_ne, zero_eq, min_i64, max_i64, min_u8, max_u8, min_u16, max_u16, min_u32, max_u32, min_u64, max_u64, and_true, true_and]
  intro x h8 hx hor
  refine ⟨fun hlt => ?_, fun hge y h0 hy => ⟨fun hlt => ?_, fun _ => trivial⟩⟩
  · rw [pages_free h8]
    refine ⟨by omega, by omega, by omega, rfl, ?_⟩
    rintro y _ _ hxy hy rfl rfl
    rw [pages_free (show 8 ≤ y by omega)]
    repeat' (first | omega | (intro _) | (refine And.intro ?_ ?_) | trivial)
  · repeat' (first | omega | (intro _) | (refine And.intro ?_ ?_) | trivial)
theorem vB44 : ∀ ds, Sorts cB44.sorts ds → tB44.vc I ds := by
  refine all_n ?_
  set_option linter.unusedSimpArgs false in
  simp only [tB44, Tree.vc, PE.den, E.den, dens, BO.ev, List.getElem?_cons_zero, List.getElem?_cons_succ, List.cons_append, List.nil_append, Option.some.injEq, D.i.injEq, D.t.injEq, exists_eq_left', exists_const, forall_const, forall_eq', one_ne, one_eq, zero_ne, zero_eq, min_i64, max_i64, min_u8, max_u8, min_u16, max_u16, min_u32, max_u32, min_u64, max_u64, and_true, true_and]
  intro x h1 h2
  refine ⟨fun hlt => ?_, fun _ => trivial⟩
  have hm : x.tmod 64 = x % 64 := Int.tmod_eq_emod_of_nonneg (by omega)
  rw [quo64 (by omega) hlt, hm, given_none h1 hlt]
  repeat' (first | omega | (intro _) | (refine And.intro ?_ ?_) | trivial)
end Go.Mg
