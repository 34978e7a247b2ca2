/-
  The contracts of the laws' helpers hold of the program. Conditions: none.
-/
import Derived.Test.YtafipmoglaepcaaAcOk1
import Derived.Test.YtafipmoglaepcaaAcV5
import Derived.Test.YtafipmoglaepcaaAcAwake
namespace Go.Proofs.Ytafipmoglaepcaa.Ac
open Go Go.Sx
variable {N : Nat}

theorem okPlayedW (hN : 65 ≤ N) : COk (J N) Try.prog cPlayedW := by
  have key : ∀ env, Sorts cPlayed.sorts env → ∀ outs, Sorts cPlayed.outs outs → (∀ e ∈ cPlayed.pre, e.den (J N) env) → (∀ e ∈ cPlayed.post, e.den (J N) (env ++ outs)) → ∀ e ∈ [PE.pr 3 [v 3, v 4]], e.den (J N) (env ++ outs) := by
    refine all_i fun l => all_t fun L => all_i fun m => all_n ?_
    refine all_t fun T => all_i fun n => all_n ?_
    intro hp hq e he
    have p1 := hp (.rng .u16 (v 0)) (by simp [cPlayed])
    have q1 := hq (.same (v 3) (fn3 28 (.bin .tmod (.wrap .i64 (v 0)) (.lit 4097)) (v 1) (v 2))) (by simp [cPlayed])
    have q2 := hq (.same (v 4) (fn3 29 (.bin .tmod (.wrap .i64 (v 0)) (.lit 4097)) (v 1) (v 2))) (by simp [cPlayed])
    simp only [List.mem_cons, List.not_mem_nil, or_false] at he
    subst he
    set_option linter.unusedSimpArgs false in
    simp only [v, fn3, Tree.vc, PE.den, E.den, dens, BO.ev, List.getElem?_cons_zero, List.getElem?_cons_succ, List.cons_append, List.nil_append, Option.some.injEq, D.i.injEq, D.t.injEq, exists_eq_left', exists_const, forall_const, forall_eq', one_ne, one_eq, min_i64, max_i64, min_u8, max_u8, min_u16, max_u16, tn2, tn3, tn5, act0, act1, act2, and_true, true_and, Jfn_0, Jfn_1, Jfn_2, Jfn_3, Jfn_4, Jfn_5, Jfn_6, Jfn_7, Jfn_8, Jfn_9, Jfn_10, Jfn_11, Jfn_12, Jfn_13, Jfn_14, Jfn_15, Jfn_16, Jfn_17, Jfn_18, Jfn_19, Jfn_20, Jfn_21, Jfn_22, Jfn_23, Jfn_24, Jfn_25, Jfn_26, Jfn_27, Jfn_28, Jfn_29, Jfn_30, Jfn_31, Jfn_32, Jfn_33, Jfn_34, Jfn_35, Jfn_36, Jfn_37, Jfn_38, Jfn_39, Jfn_40, Jfn_41, Jfn_42, Jpr_0, Jpr_1, Jpr_2, Jpr_3, Jpr_4, Jpr_5, Jpr_11, Jpr_6, Jpr_7, Jpr_8, Jpr_9, Jpr_10, Jpr_12, Jpr_13, Jpr_14, Jpr_15, Jpr_16, Jpr_17, Jpr_20, Jpr_21] at p1 q1 q2 ⊢
    subst q1 q2
    exact st_wf (wrap_small p1) L _
  exact COk.weak (okPlayed hN) fun env outs h1 h2 h3 h4 => key env h1 outs h2 h3 h4
theorem kList : tidied fs (xList Try.prog) 100 cList = tList := by kernel_rfl
theorem okList : COk (J N) Try.prog cList := mk (cx := xList Try.prog) (all_cons okCollect (all_cons okOpen all_nil)) kList vList
theorem kSame : tidied fs (xTwo Try.prog) 100 cSame = tSame := by kernel_rfl
theorem okSame : COk (J N) Try.prog cSame := mk (cx := xTwo Try.prog) all_nil kSame vSame
theorem kBut : tidied fs (xTwo Try.prog) 100 cBut = tBut := by kernel_rfl
theorem okBut : COk (J N) Try.prog cBut := mk (cx := xTwo Try.prog) all_nil kBut vBut
theorem kIn : tidied fs (xTwo Try.prog) 100 cIn = tIn := by kernel_rfl
theorem okIn : COk (J N) Try.prog cIn := mk (cx := xTwo Try.prog) all_nil kIn vIn


theorem lawCs_ok (hN : 65 ≤ N) : ∀ c ∈ lawCs, COk (J N) Try.prog c :=
  all_cons (okAwake _) (all_cons (okPlayedW hN) (all_cons (okDoes hN) (all_cons okSave (all_cons okOver (all_cons okUsed (all_cons okPeak (all_cons okHead (all_cons okList (all_cons okCharge (all_cons okGive (all_cons okMove (all_cons okSame (all_cons okBut (all_cons okIn all_nil))))))))))))))
theorem kLSums : tidied fs (xSumsL Try.prog) 200 (cLaw 6) = tLSums := by kernel_rfl
theorem okLSums : COk (J 65) Try.prog (cLaw 6) := mk (cx := xSumsL Try.prog) (lawCs_ok (Nat.le_refl _)) kLSums vLSums
theorem kLHead : tidied fs (xHeadL Try.prog) 200 (cLawX 4) = tLHead := by kernel_rfl
theorem okLHead : COk (J 65) Try.prog (cLawX 4) := mk (cx := xHeadL Try.prog) (lawCs_ok (Nat.le_refl _)) kLHead vLHead
end Go.Proofs.Ytafipmoglaepcaa.Ac
