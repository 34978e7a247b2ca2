/-
  The conditions of the laws' helpers hold. Conditions: none.
-/
import Derived.Test.YtafipmoglaepcaaAcT2
import Derived.Test.YtafipmoglaepcaaAcV3
import Derived.Test.YtafipmoglaepcaaAcLaw
namespace Go.Proofs.Ytafipmoglaepcaa.Ac
open Go Go.Sx
variable {N : Nat}

theorem preT_zero (T : Tb) : preT T 0 = fun _ _ => 0 := by
  funext r c; unfold preT; rw [if_neg (by omega)]
theorem preT_next (T : Tb) {k : Int} (h : 0 ≤ k) : tupd (preT T k) k 0 (T k 0) = preT T (k + 1) := by
  funext r c
  simp only [tupd, preT]
  by_cases hr : r = k ∧ c = 0
  · obtain ⟨rfl, rfl⟩ := hr
    rw [if_pos ⟨rfl, rfl⟩, if_pos (by omega)]
  · rw [if_neg hr]
    by_cases hx : 0 ≤ r ∧ r < k ∧ c = 0
    · rw [if_pos hx, if_pos (by omega)]
    · rw [if_neg hx, if_neg (by omega)]
theorem preT_lst (l : List Int) : preT (lstT l) l.length = lstT l := by
  funext r c
  simp only [preT, lstT]
  by_cases h : 0 ≤ r ∧ c = 0
  · by_cases h2 : r < l.length
    · rw [if_pos ⟨h.1, h2, h.2⟩]
    · rw [if_neg (fun x => h2 x.2.1), if_pos h, List.getD_eq_getElem?_getD, List.getElem?_eq_none (by omega)]; rfl
  · rw [if_neg (fun x => h ⟨x.1, x.2.2⟩), if_neg h]
theorem vList : ∀ ds, Sorts cList.sorts ds → tList.vc (J N) ds := by
  refine all_t fun T => all_i fun n => all_i fun i => all_n ?_
  set_option linter.unusedSimpArgs false in
  simp only [tList, Tree.vc, PE.den, E.den, dens, BO.ev, List.getElem?_cons_zero, List.getElem?_cons_succ, List.cons_append, List.nil_append, Option.some.injEq, D.i.injEq, D.t.injEq, exists_eq_left', exists_const, forall_const, forall_eq', one_ne, one_eq, min_i64, max_i64, min_u8, max_u8, min_u16, max_u16, tn2, tn3, tn5, act0, act1, act2, and_true, true_and, Jfn_0, Jfn_1, Jfn_2, Jfn_3, Jfn_4, Jfn_5, Jfn_6, Jfn_7, Jfn_8, Jfn_9, Jfn_10, Jfn_11, Jfn_12, Jfn_13, Jfn_14, Jfn_15, Jfn_16, Jfn_17, Jfn_18, Jfn_19, Jfn_20, Jfn_21, Jfn_22, Jfn_23, Jfn_24, Jfn_25, Jfn_26, Jfn_27, Jfn_28, Jfn_29, Jfn_30, Jfn_31, Jfn_32, Jfn_33, Jfn_34, Jfn_35, Jfn_36, Jfn_37, Jfn_38, Jfn_39, Jfn_40, Jfn_41, Jfn_42, Jpr_0, Jpr_1, Jpr_2, Jpr_3, Jpr_4, Jpr_5, Jpr_11, Jpr_6, Jpr_7, Jpr_8, Jpr_9, Jpr_10, Jpr_12, Jpr_13, Jpr_14, Jpr_15, Jpr_16, Jpr_17, Jpr_20, Jpr_21]
  intro w
  refine ⟨fun h => ?_, fun h => ?_⟩
  · rw [path_not h]; exact ⟨lstT_nil, rfl⟩
  rintro _ _ rfl rfl
  have hlen := path_len w.toWt i
  refine ⟨by omega, preT_zero _, ?_⟩
  rintro _ _ k h0 hk rfl rfl
  refine ⟨fun hlt => ⟨fun e => by omega, fun _ => ⟨by omega, by omega, by omega, by omega, (preT_next _ h0).symm, by omega, by omega⟩⟩, fun hge => ?_⟩
  have : k = (path T n i).length := by omega
  subst this
  exact ⟨(preT_lst _).symm, rfl⟩

theorem bool_iff {a b : Int} : ((if a = 0 then (0 : Int) else 1) = if b = 0 then 0 else 1) ↔ (a ≠ 0 ↔ b ≠ 0) := by
  by_cases h1 : a = 0 <;> by_cases h2 : b = 0 <;> simp [h1, h2]
theorem EqTo.next {A B : Tb} {k : Int} (h : EqTo A B k) (hr : EqRow A B k) : EqTo A B (k + 1) := fun r a b => by
  by_cases e : r = k
  · rw [e]; exact hr
  · exact h r a (by omega)
theorem ButTo.next {A B : Tb} {k : Int} (h : ButTo A B k) (hr : ButRow A B k) : ButTo A B (k + 1) := fun r a b => by
  by_cases e : r = k
  · rw [e]; exact hr
  · exact h r a (by omega)
theorem vSame : ∀ ds, Sorts cSame.sorts ds → tSame.vc (J N) ds := by
  refine all_t fun A => all_i fun n => all_t fun B => all_i fun m => all_n ?_
  set_option linter.unusedSimpArgs false in
  simp only [tSame, Tree.vc, PE.den, E.den, dens, BO.ev, List.getElem?_cons_zero, List.getElem?_cons_succ, List.cons_append, List.nil_append, Option.some.injEq, D.i.injEq, D.t.injEq, exists_eq_left', exists_const, forall_const, forall_eq', one_ne, one_eq, min_i64, max_i64, min_u8, max_u8, min_u16, max_u16, tn2, tn3, tn5, act0, act1, act2, and_true, true_and, Jfn_0, Jfn_1, Jfn_2, Jfn_3, Jfn_4, Jfn_5, Jfn_6, Jfn_7, Jfn_8, Jfn_9, Jfn_10, Jfn_11, Jfn_12, Jfn_13, Jfn_14, Jfn_15, Jfn_16, Jfn_17, Jfn_18, Jfn_19, Jfn_20, Jfn_21, Jfn_22, Jfn_23, Jfn_24, Jfn_25, Jfn_26, Jfn_27, Jfn_28, Jfn_29, Jfn_30, Jfn_31, Jfn_32, Jfn_33, Jfn_34, Jfn_35, Jfn_36, Jfn_37, Jfn_38, Jfn_39, Jfn_40, Jfn_41, Jfn_42, Jpr_0, Jpr_1, Jpr_2, Jpr_3, Jpr_4, Jpr_5, Jpr_11, Jpr_6, Jpr_7, Jpr_8, Jpr_9, Jpr_10, Jpr_12, Jpr_13, Jpr_14, Jpr_15, Jpr_16, Jpr_17, Jpr_20, Jpr_21]
  intro hn hn2 hm hm2
  refine ⟨fun h => ⟨fun y => (y rfl).elim, fun y => (h y.1).elim⟩, fun h => ⟨fun r a b => by omega, fun k h0 hk he => ⟨fun hlt => ⟨by omega, fun hd => ?_, fun hd => ?_⟩, fun hge => ?_⟩⟩⟩
  · rw [bool_iff] at hd
    refine ⟨fun y => (y rfl).elim, fun ⟨_, y⟩ => (hd ?_).elim⟩
    obtain ⟨a, b, c, d, e⟩ := y k h0 hlt
    exact ⟨a, b, c, d, e, by omega⟩
  · rw [bool_iff] at hd
    have hd := Classical.not_not.1 hd
    exact ⟨by omega, by omega, by omega, he.next ⟨hd.1, hd.2.1, hd.2.2.1, hd.2.2.2.1, hd.2.2.2.2.1⟩, by omega, by omega⟩
  · have : k = n := by omega
    subst this
    exact ⟨fun _ => ⟨Classical.not_not.1 h, he⟩, fun _ => by omega⟩
theorem vBut : ∀ ds, Sorts cBut.sorts ds → tBut.vc (J N) ds := by
  refine all_t fun A => all_i fun n => all_t fun B => all_i fun m => all_n ?_
  set_option linter.unusedSimpArgs false in
  simp only [tBut, Tree.vc, PE.den, E.den, dens, BO.ev, List.getElem?_cons_zero, List.getElem?_cons_succ, List.cons_append, List.nil_append, Option.some.injEq, D.i.injEq, D.t.injEq, exists_eq_left', exists_const, forall_const, forall_eq', one_ne, one_eq, min_i64, max_i64, min_u8, max_u8, min_u16, max_u16, tn2, tn3, tn5, act0, act1, act2, and_true, true_and, Jfn_0, Jfn_1, Jfn_2, Jfn_3, Jfn_4, Jfn_5, Jfn_6, Jfn_7, Jfn_8, Jfn_9, Jfn_10, Jfn_11, Jfn_12, Jfn_13, Jfn_14, Jfn_15, Jfn_16, Jfn_17, Jfn_18, Jfn_19, Jfn_20, Jfn_21, Jfn_22, Jfn_23, Jfn_24, Jfn_25, Jfn_26, Jfn_27, Jfn_28, Jfn_29, Jfn_30, Jfn_31, Jfn_32, Jfn_33, Jfn_34, Jfn_35, Jfn_36, Jfn_37, Jfn_38, Jfn_39, Jfn_40, Jfn_41, Jfn_42, Jpr_0, Jpr_1, Jpr_2, Jpr_3, Jpr_4, Jpr_5, Jpr_11, Jpr_6, Jpr_7, Jpr_8, Jpr_9, Jpr_10, Jpr_12, Jpr_13, Jpr_14, Jpr_15, Jpr_16, Jpr_17, Jpr_20, Jpr_21]
  intro hn hn2 hm hm2
  refine ⟨fun h => ⟨fun y => (y rfl).elim, fun y => (h y.1).elim⟩, fun h => ⟨fun r a b => by omega, fun k h0 hk he => ⟨fun hlt => ⟨by omega, ?_⟩, fun hge => ?_⟩⟩⟩
  · have key : (A k 3 < B k 3 → ((0 : Int) ≠ 0 ↔ n = m ∧ ButTo A B n)) ∧ (¬A k 3 < B k 3 →
        (¬(A k 0 = B k 0 ∧ A k 1 = B k 1 ∧ A k 2 = B k 2 ∧ ((if A k 4 = 0 then (0 : Int) else 1) = if B k 4 = 0 then 0 else 1) ∧ (1 : Int) ≠ 0) → ((0 : Int) ≠ 0 ↔ n = m ∧ ButTo A B n)) ∧
        (¬¬(A k 0 = B k 0 ∧ A k 1 = B k 1 ∧ A k 2 = B k 2 ∧ ((if A k 4 = 0 then (0 : Int) else 1) = if B k 4 = 0 then 0 else 1) ∧ (1 : Int) ≠ 0) →
          (-9223372036854775808 ≤ k + 1 ∧ k + 1 ≤ 9223372036854775807) ∧ 0 ≤ k + 1 ∧ k + 1 ≤ n ∧ ButTo A B (k + 1) ∧ 0 ≤ n - (k + 1) ∧ n - (k + 1) < n - k)) := by
      refine ⟨fun hp => ⟨fun y => (y rfl).elim, fun ⟨_, y⟩ => ?_⟩, fun hp => ⟨fun hd => ?_, fun hd => ?_⟩⟩
      · have := (y k h0 hlt).1; omega
      · rw [bool_iff] at hd
        refine ⟨fun y => (y rfl).elim, fun ⟨_, y⟩ => (hd ?_).elim⟩
        obtain ⟨_, a, b, c, e⟩ := y k h0 hlt
        exact ⟨a, b, c, e, by omega⟩
      · rw [bool_iff] at hd
        have hd := Classical.not_not.1 hd
        exact ⟨by omega, by omega, by omega, he.next ⟨by omega, hd.1, hd.2.1, hd.2.2.1, hd.2.2.2.1⟩, by omega, by omega⟩
    exact ⟨key, key⟩
  · have : k = n := by omega
    subst this
    exact ⟨fun _ => ⟨Classical.not_not.1 h, he⟩, fun _ => by omega⟩
theorem vIn : ∀ ds, Sorts cIn.sorts ds → tIn.vc (J N) ds := by
  refine all_t fun L => all_i fun m => all_i fun x => all_n ?_
  set_option linter.unusedSimpArgs false in
  simp only [tIn, Tree.vc, PE.den, E.den, dens, BO.ev, List.getElem?_cons_zero, List.getElem?_cons_succ, List.cons_append, List.nil_append, Option.some.injEq, D.i.injEq, D.t.injEq, exists_eq_left', exists_const, forall_const, forall_eq', one_ne, one_eq, min_i64, max_i64, min_u8, max_u8, min_u16, max_u16, tn2, tn3, tn5, act0, act1, act2, and_true, true_and, Jfn_0, Jfn_1, Jfn_2, Jfn_3, Jfn_4, Jfn_5, Jfn_6, Jfn_7, Jfn_8, Jfn_9, Jfn_10, Jfn_11, Jfn_12, Jfn_13, Jfn_14, Jfn_15, Jfn_16, Jfn_17, Jfn_18, Jfn_19, Jfn_20, Jfn_21, Jfn_22, Jfn_23, Jfn_24, Jfn_25, Jfn_26, Jfn_27, Jfn_28, Jfn_29, Jfn_30, Jfn_31, Jfn_32, Jfn_33, Jfn_34, Jfn_35, Jfn_36, Jfn_37, Jfn_38, Jfn_39, Jfn_40, Jfn_41, Jfn_42, Jpr_0, Jpr_1, Jpr_2, Jpr_3, Jpr_4, Jpr_5, Jpr_11, Jpr_6, Jpr_7, Jpr_8, Jpr_9, Jpr_10, Jpr_12, Jpr_13, Jpr_14, Jpr_15, Jpr_16, Jpr_17, Jpr_20, Jpr_21]
  intro hm hm2
  refine ⟨fun j h0 h1 => by omega, fun k h0 hk h => ⟨fun hlt => ⟨fun e => ?_, fun e => ⟨by omega, by omega, by omega, fun j a b => ?_, by omega, by omega⟩⟩, fun hge => ?_⟩⟩
  · exact ⟨fun _ => ⟨k, h0, hlt, e⟩, fun _ => by omega⟩
  · by_cases hj : j = k
    · rw [hj]; exact e
    · exact h j a (by omega)
  · refine ⟨fun y => (y rfl).elim, fun ⟨j, a, b, c⟩ => (h j a (by omega) c).elim⟩
end Go.Proofs.Ytafipmoglaepcaa.Ac
