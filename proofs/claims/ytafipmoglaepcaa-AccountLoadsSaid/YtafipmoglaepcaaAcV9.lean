/-
  The formulas of what lies below a node. Conditions: none.
-/
import Derived.Test.YtafipmoglaepcaaAcSem
import Derived.Test.YtafipmoglaepcaaAcT3
import Derived.Test.YtafipmoglaepcaaAcV4
import Derived.Test.YtafipmoglaepcaaAcAg
namespace Go.Proofs.Ytafipmoglaepcaa.Ac
open Go Go.Sx
variable {N : Nat}

theorem lst_cat3 (a b c : List Int) : tcat (tcat (lstT a) a.length (lstT b)) (a.length + b.length) (lstT c) = tcat (lstT a) a.length (lstT (b ++ c)) := by
  rw [lst_cat, lst_cat, ← List.append_assoc, ← lst_cat (a ++ b)]
  simp
theorem part_le {T : Tb} {n i k : Int} (w : Wt T n) (hi : Opn T n i) (hk : 0 ≤ k) (hkn : k ≤ n) : ((partL T n i k).length : Int) ≤ (subL T n i).length := by
  rw [partL_len w, sub_length w hi, ← size_part w hi]
  have hm := (part_mono (i := i) w (n - k).toNat k hk).2
  rwa [show k + ((n - k).toNat : Int) = n by omega] at hm
theorem vInts : ∀ ds, Sorts cInts.sorts ds → tInts.vc (J N) ds := by
  refine all_t fun A => all_i fun n => all_t fun B => all_i fun m => all_n ?_
  set_option linter.unusedSimpArgs false in
  simp only [tInts, Tree.vc, PE.den, E.den, dens, BO.ev, List.getElem?_cons_zero, List.getElem?_cons_succ, List.cons_append, List.nil_append, Option.some.injEq, D.i.injEq, D.t.injEq, exists_eq_left', exists_const, forall_const, forall_eq', one_ne, one_eq, min_i64, max_i64, min_u8, max_u8, min_u16, max_u16, tn2, tn3, tn5, act0, act1, act2, and_true, true_and, Jfn_0, Jfn_1, Jfn_2, Jfn_3, Jfn_4, Jfn_5, Jfn_6, Jfn_7, Jfn_8, Jfn_9, Jfn_10, Jfn_11, Jfn_12, Jfn_13, Jfn_14, Jfn_15, Jfn_16, Jfn_17, Jfn_18, Jfn_19, Jfn_20, Jfn_21, Jfn_22, Jfn_23, Jfn_24, Jfn_25, Jfn_26, Jfn_27, Jfn_28, Jfn_29, Jfn_30, Jfn_31, Jfn_32, Jfn_33, Jfn_34, Jfn_35, Jfn_36, Jfn_37, Jfn_38, Jfn_39, Jfn_40, Jfn_43, Jfn_44, Jfn_45, Jfn_46, Jfn_47, Jfn_48, Jfn_41, Jfn_42, Jpr_0, Jpr_1, Jpr_2, Jpr_3, Jpr_4, Jpr_5, Jpr_11, Jpr_6, Jpr_7, Jpr_8, Jpr_9, Jpr_10, Jpr_12, Jpr_13, Jpr_14, Jpr_15, Jpr_16, Jpr_17, Jpr_18, Jpr_19, Jpr_22, Jpr_23, Jpr_24, Jpr_25, Jpr_26, Jpr_27, Jpr_28, Jfn_49, Jfn_50, Jfn_51, Jfn_52, Jpr_31, Jpr_20, Jpr_21]
  intro h0 h1 _ _
  exact ⟨fun h => h trivial, fun _ k hk hkn => ⟨fun hlt => ⟨fun h => h trivial, fun _ => ⟨by omega, by omega, by omega, by omega, by omega⟩⟩, fun _ => trivial⟩⟩
theorem vWalkN (hN : 65 ≤ N) : ∀ ds, Sorts cWalkN.sorts ds → tWalkN.vc (J N) ds := by
  refine all_t fun T => all_i fun n => all_i fun i => all_n ?_
  set_option linter.unusedSimpArgs false in
  simp only [tWalkN, Tree.vc, PE.den, E.den, dens, BO.ev, List.getElem?_cons_zero, List.getElem?_cons_succ, List.cons_append, List.nil_append, Option.some.injEq, D.i.injEq, D.t.injEq, exists_eq_left', exists_const, forall_const, forall_eq', one_ne, one_eq, min_i64, max_i64, min_u8, max_u8, min_u16, max_u16, tn2, tn3, tn5, act0, act1, act2, and_true, true_and, Jfn_0, Jfn_1, Jfn_2, Jfn_3, Jfn_4, Jfn_5, Jfn_6, Jfn_7, Jfn_8, Jfn_9, Jfn_10, Jfn_11, Jfn_12, Jfn_13, Jfn_14, Jfn_15, Jfn_16, Jfn_17, Jfn_18, Jfn_19, Jfn_20, Jfn_21, Jfn_22, Jfn_23, Jfn_24, Jfn_25, Jfn_26, Jfn_27, Jfn_28, Jfn_29, Jfn_30, Jfn_31, Jfn_32, Jfn_33, Jfn_34, Jfn_35, Jfn_36, Jfn_37, Jfn_38, Jfn_39, Jfn_40, Jfn_43, Jfn_44, Jfn_45, Jfn_46, Jfn_47, Jfn_48, Jfn_41, Jfn_42, Jpr_0, Jpr_1, Jpr_2, Jpr_3, Jpr_4, Jpr_5, Jpr_11, Jpr_6, Jpr_7, Jpr_8, Jpr_9, Jpr_10, Jpr_12, Jpr_13, Jpr_14, Jpr_15, Jpr_16, Jpr_17, Jpr_18, Jpr_19, Jpr_22, Jpr_23, Jpr_24, Jpr_25, Jpr_26, Jpr_27, Jpr_28, Jfn_49, Jfn_50, Jfn_51, Jfn_52, Jpr_31, Jpr_20, Jpr_21]
  intro w hi
  have hn := w.n1
  have hn2 := w.n64
  refine ⟨by omega, by rw [partL_0]; exact (lst_one i).symm, by rw [partL_0]; rfl, ?_⟩
  rintro _ _ k hk hkn rfl rfl
  have hst := partL_step (T := T) (n := n) (i := i) hk
  have hl := part_le w.toWt hi hk hkn
  have hl2 := sub_le (i := i) w.toWt
  have hl3 := sub_le (i := k) w.toWt
  refine ⟨fun hlt => ⟨fun k0 => ⟨fun ko => ⟨fun e => ?_, fun e => ?_⟩, fun ko => ?_⟩, fun k0 => ?_⟩, fun hge => ?_⟩
  · rw [if_pos ⟨ko, k0, e⟩] at hst
    have h1 := high_ok (i := k) w.toWt
    have h3 := high_ok (i := i) w.toWt
    have h2 := high_kid w.toWt ko
    rw [e] at h2
    refine ⟨⟨_, rfl, rfl⟩, by omega, by omega, ?_⟩
    rintro _ _ rfl rfl
    refine ⟨by omega, by omega, by omega, ?_, ?_, by omega, by omega⟩
    · rw [hst]; exact (lst_cat _ _).symm
    · rw [hst, List.length_append]; omega
  · rw [if_neg (fun x => e x.2.2), List.append_nil] at hst
    rw [hst]
    exact ⟨by omega, by omega, by omega, rfl, rfl, by omega, by omega⟩
  · rw [if_neg (fun x => ko x.1), List.append_nil] at hst
    rw [hst]
    exact ⟨by omega, by omega, by omega, rfl, rfl, by omega, by omega⟩
  · rw [if_neg (fun x => k0 x.2.1), List.append_nil] at hst
    rw [hst]
    exact ⟨by omega, by omega, by omega, rfl, rfl, by omega, by omega⟩
  · have : k = n := by omega
    subst this
    rw [← sub_part w.toWt hi]
    exact ⟨rfl, rfl⟩
theorem vWalkC : ∀ ds, Sorts (cWalkC 21).sorts ds → tWalkC.vc (J N) ds := by
  refine all_t fun T => all_i fun n => all_i fun i => all_t fun L => all_i fun m => all_n ?_
  set_option linter.unusedSimpArgs false in
  simp only [tWalkC, Tree.vc, PE.den, E.den, dens, BO.ev, List.getElem?_cons_zero, List.getElem?_cons_succ, List.cons_append, List.nil_append, Option.some.injEq, D.i.injEq, D.t.injEq, exists_eq_left', exists_const, forall_const, forall_eq', one_ne, one_eq, min_i64, max_i64, min_u8, max_u8, min_u16, max_u16, tn2, tn3, tn5, act0, act1, act2, and_true, true_and, Jfn_0, Jfn_1, Jfn_2, Jfn_3, Jfn_4, Jfn_5, Jfn_6, Jfn_7, Jfn_8, Jfn_9, Jfn_10, Jfn_11, Jfn_12, Jfn_13, Jfn_14, Jfn_15, Jfn_16, Jfn_17, Jfn_18, Jfn_19, Jfn_20, Jfn_21, Jfn_22, Jfn_23, Jfn_24, Jfn_25, Jfn_26, Jfn_27, Jfn_28, Jfn_29, Jfn_30, Jfn_31, Jfn_32, Jfn_33, Jfn_34, Jfn_35, Jfn_36, Jfn_37, Jfn_38, Jfn_39, Jfn_40, Jfn_43, Jfn_44, Jfn_45, Jfn_46, Jfn_47, Jfn_48, Jfn_41, Jfn_42, Jpr_0, Jpr_1, Jpr_2, Jpr_3, Jpr_4, Jpr_5, Jpr_11, Jpr_6, Jpr_7, Jpr_8, Jpr_9, Jpr_10, Jpr_12, Jpr_13, Jpr_14, Jpr_15, Jpr_16, Jpr_17, Jpr_18, Jpr_19, Jpr_22, Jpr_23, Jpr_24, Jpr_25, Jpr_26, Jpr_27, Jpr_28, Jfn_49, Jfn_50, Jfn_51, Jfn_52, Jpr_31, Jpr_20, Jpr_21]
  rintro w hi ⟨l, rfl, rfl⟩ hs hh
  have hn := w.n1
  have hn2 := w.n64
  refine ⟨by omega, by omega, by rw [partL_0, lst_cat]; exact (lst_push l i).symm, by rw [partL_0]; rfl, ?_⟩
  rintro _ _ k hk hkn rfl rfl
  have hst := partL_step (T := T) (n := n) (i := i) hk
  have hl := part_le w.toWt hi hk hkn
  refine ⟨fun hlt => ⟨fun k0 => ⟨fun ko => ⟨fun e => ?_, fun e => ?_⟩, fun ko => ?_⟩, fun k0 => ?_⟩, fun hge => ?_⟩
  · have hl4 := part_le w.toWt hi (k := k + 1) (by omega) (by omega)
    rw [if_pos ⟨ko, k0, e⟩] at hst
    rw [hst, List.length_append] at hl4
    have h1 := high_ok (i := k) w.toWt
    have h2 := high_kid w.toWt ko
    rw [e] at h2
    refine ⟨⟨_, lst_cat _ _, by rw [List.length_append]; omega⟩, by omega, by omega, ?_⟩
    rintro _ _ rfl rfl
    refine ⟨by omega, by omega, by omega, ?_, ?_, by omega, by omega⟩
    · rw [hst, lst_cat3]
    · rw [hst, List.length_append]; omega
  · rw [if_neg (fun x => e x.2.2), List.append_nil] at hst
    rw [hst]
    exact ⟨by omega, by omega, by omega, rfl, rfl, by omega, by omega⟩
  · rw [if_neg (fun x => ko x.1), List.append_nil] at hst
    rw [hst]
    exact ⟨by omega, by omega, by omega, rfl, rfl, by omega, by omega⟩
  · rw [if_neg (fun x => k0 x.2.1), List.append_nil] at hst
    rw [hst]
    exact ⟨by omega, by omega, by omega, rfl, rfl, by omega, by omega⟩
  · have : k = n := by omega
    subst this
    rw [← sub_part w.toWt hi]
    exact ⟨rfl, rfl⟩
theorem vRBelow : ∀ ds, Sorts (rBelow 21).sorts ds → tRBelow.vc (J N) ds := by
  refine all_t fun R => all_i fun n => all_i fun i => all_n ?_
  set_option linter.unusedSimpArgs false in
  simp only [tRBelow, Tree.vc, PE.den, E.den, dens, BO.ev, List.getElem?_cons_zero, List.getElem?_cons_succ, List.cons_append, List.nil_append, Option.some.injEq, D.i.injEq, D.t.injEq, exists_eq_left', exists_const, forall_const, forall_eq', one_ne, one_eq, min_i64, max_i64, min_u8, max_u8, min_u16, max_u16, tn2, tn3, tn5, act0, act1, act2, and_true, true_and, Jfn_0, Jfn_1, Jfn_2, Jfn_3, Jfn_4, Jfn_5, Jfn_6, Jfn_7, Jfn_8, Jfn_9, Jfn_10, Jfn_11, Jfn_12, Jfn_13, Jfn_14, Jfn_15, Jfn_16, Jfn_17, Jfn_18, Jfn_19, Jfn_20, Jfn_21, Jfn_22, Jfn_23, Jfn_24, Jfn_25, Jfn_26, Jfn_27, Jfn_28, Jfn_29, Jfn_30, Jfn_31, Jfn_32, Jfn_33, Jfn_34, Jfn_35, Jfn_36, Jfn_37, Jfn_38, Jfn_39, Jfn_40, Jfn_43, Jfn_44, Jfn_45, Jfn_46, Jfn_47, Jfn_48, Jfn_41, Jfn_42, Jpr_0, Jpr_1, Jpr_2, Jpr_3, Jpr_4, Jpr_5, Jpr_11, Jpr_6, Jpr_7, Jpr_8, Jpr_9, Jpr_10, Jpr_12, Jpr_13, Jpr_14, Jpr_15, Jpr_16, Jpr_17, Jpr_18, Jpr_19, Jpr_22, Jpr_23, Jpr_24, Jpr_25, Jpr_26, Jpr_27, Jpr_28, Jfn_49, Jfn_50, Jfn_51, Jfn_52, Jpr_31, Jpr_20, Jpr_21]
  intro w0 hh
  have w : Wt R n := rwt w0
  have hn := w.n1
  have hn2 := w.n64
  have hl2 := sub_le (i := i) w
  refine ⟨fun h => ?_, fun h => ?_⟩
  · rw [sub_not h]; exact ⟨lstT_nil, rfl⟩
  have hi : Opn R n i := Decidable.not_not.1 h
  refine ⟨by omega, by rw [partL_0]; exact (lst_one i).symm, by rw [partL_0]; rfl, ?_⟩
  rintro _ _ k hk hkn rfl rfl
  have hst := partL_step (T := R) (n := n) (i := i) hk
  have hl := part_le w hi hk hkn
  have hl3 := sub_le (i := k) w
  refine ⟨fun hlt => ⟨fun ko => ⟨fun e => ?_, fun e => ?_⟩, fun ko => ?_⟩, fun hge => ?_⟩
  · have k0 : 0 < k := by
      have : k ≠ 0 := fun x => by
        have := w.rootp
        rw [x] at e
        have := hi.1
        omega
      omega
    rw [if_pos ⟨ko, k0, e⟩] at hst
    have h1 := high_ok (i := k) w
    have h2 := high_kid w ko
    rw [e] at h2
    refine ⟨by omega, ?_⟩
    rintro _ _ rfl rfl
    refine ⟨by omega, by omega, by omega, by omega, ?_, ?_, by omega, by omega⟩
    · rw [hst]; exact (lst_cat _ _).symm
    · rw [hst, List.length_append]; omega
  · rw [if_neg (fun x => e x.2.2), List.append_nil] at hst
    rw [hst]
    exact ⟨by omega, by omega, by omega, rfl, rfl, by omega, by omega⟩
  · rw [if_neg (fun x => ko x.1), List.append_nil] at hst
    rw [hst]
    exact ⟨by omega, by omega, by omega, rfl, rfl, by omega, by omega⟩
  · have : k = n := by omega
    subst this
    rw [← sub_part w hi]
    exact ⟨rfl, rfl⟩
theorem vCollectB : ∀ ds, Sorts cCollectB.sorts ds → tCollectB.vc (J N) ds := fun _ _ => trivial
theorem vListB : ∀ ds, Sorts cListB.sorts ds → tListB.vc (J N) ds := by
  refine all_t fun T => all_i fun n => all_i fun i => all_n ?_
  set_option linter.unusedSimpArgs false in
  simp only [tListB, Tree.vc, PE.den, E.den, dens, BO.ev, List.getElem?_cons_zero, List.getElem?_cons_succ, List.cons_append, List.nil_append, Option.some.injEq, D.i.injEq, D.t.injEq, exists_eq_left', exists_const, forall_const, forall_eq', one_ne, one_eq, min_i64, max_i64, min_u8, max_u8, min_u16, max_u16, tn2, tn3, tn5, act0, act1, act2, and_true, true_and, Jfn_0, Jfn_1, Jfn_2, Jfn_3, Jfn_4, Jfn_5, Jfn_6, Jfn_7, Jfn_8, Jfn_9, Jfn_10, Jfn_11, Jfn_12, Jfn_13, Jfn_14, Jfn_15, Jfn_16, Jfn_17, Jfn_18, Jfn_19, Jfn_20, Jfn_21, Jfn_22, Jfn_23, Jfn_24, Jfn_25, Jfn_26, Jfn_27, Jfn_28, Jfn_29, Jfn_30, Jfn_31, Jfn_32, Jfn_33, Jfn_34, Jfn_35, Jfn_36, Jfn_37, Jfn_38, Jfn_39, Jfn_40, Jfn_43, Jfn_44, Jfn_45, Jfn_46, Jfn_47, Jfn_48, Jfn_41, Jfn_42, Jpr_0, Jpr_1, Jpr_2, Jpr_3, Jpr_4, Jpr_5, Jpr_11, Jpr_6, Jpr_7, Jpr_8, Jpr_9, Jpr_10, Jpr_12, Jpr_13, Jpr_14, Jpr_15, Jpr_16, Jpr_17, Jpr_18, Jpr_19, Jpr_22, Jpr_23, Jpr_24, Jpr_25, Jpr_26, Jpr_27, Jpr_28, Jfn_49, Jfn_50, Jfn_51, Jfn_52, Jpr_31, Jpr_20, Jpr_21]
  intro w
  refine ⟨fun h => ?_, fun h => ?_⟩
  · rw [sub_not h]; exact ⟨lstT_nil, rfl⟩
  rintro _ _ rfl rfl
  have hlen := sub_le (i := i) w.toWt
  refine ⟨by omega, preT_zero _, ?_⟩
  rintro _ _ k h0 hk rfl rfl
  refine ⟨fun hlt => ⟨fun e => by omega, fun _ => ⟨by omega, by omega, by omega, by omega, (preT_next _ h0).symm, by omega, by omega⟩⟩, fun hge => ?_⟩
  have : k = (subL T n i).length := by omega
  subst this
  exact ⟨(preT_lst _).symm, rfl⟩
theorem vWalks : ∀ ds, Sorts cWalks.sorts ds → tWalks.vc (J N) ds := by
  refine all_t fun T => all_i fun n => all_i fun i => all_t fun A => all_i fun a => all_t fun B => all_i fun b => all_n ?_
  set_option linter.unusedSimpArgs false in
  simp only [tWalks, Tree.vc, PE.den, E.den, dens, BO.ev, List.getElem?_cons_zero, List.getElem?_cons_succ, List.cons_append, List.nil_append, Option.some.injEq, D.i.injEq, D.t.injEq, exists_eq_left', exists_const, forall_const, forall_eq', one_ne, one_eq, min_i64, max_i64, min_u8, max_u8, min_u16, max_u16, tn2, tn3, tn5, act0, act1, act2, and_true, true_and, Jfn_0, Jfn_1, Jfn_2, Jfn_3, Jfn_4, Jfn_5, Jfn_6, Jfn_7, Jfn_8, Jfn_9, Jfn_10, Jfn_11, Jfn_12, Jfn_13, Jfn_14, Jfn_15, Jfn_16, Jfn_17, Jfn_18, Jfn_19, Jfn_20, Jfn_21, Jfn_22, Jfn_23, Jfn_24, Jfn_25, Jfn_26, Jfn_27, Jfn_28, Jfn_29, Jfn_30, Jfn_31, Jfn_32, Jfn_33, Jfn_34, Jfn_35, Jfn_36, Jfn_37, Jfn_38, Jfn_39, Jfn_40, Jfn_43, Jfn_44, Jfn_45, Jfn_46, Jfn_47, Jfn_48, Jfn_41, Jfn_42, Jpr_0, Jpr_1, Jpr_2, Jpr_3, Jpr_4, Jpr_5, Jpr_11, Jpr_6, Jpr_7, Jpr_8, Jpr_9, Jpr_10, Jpr_12, Jpr_13, Jpr_14, Jpr_15, Jpr_16, Jpr_17, Jpr_18, Jpr_19, Jpr_22, Jpr_23, Jpr_24, Jpr_25, Jpr_26, Jpr_27, Jpr_28, Jfn_49, Jfn_50, Jfn_51, Jfn_52, Jpr_31, Jpr_20, Jpr_21]
  rintro w rfl rfl rfl rfl _ _ _ _ _ _ _ _
  have h1 := path_len w.toWt i
  have h2 := sub_le (i := i) w.toWt
  exact ⟨by omega, by omega, by omega, by omega⟩
end Go.Proofs.Ytafipmoglaepcaa.Ac

namespace Go.Proofs.Ytafipmoglaepcaa.Ac
open Go Go.Sx
variable {N : Nat}

theorem Sh.subF {R T : Tb} {n : Int} (h : Sh R T n) : ∀ (f : Nat) (i : Int), subF R n f i = subF T n f i
  | 0, _ => rfl
  | f + 1, i => by
    simp only [Ac.subF]
    congr 1
    refine catN_congr fun j _ => ?_
    by_cases hj : Opn R n (j : Int)
    · rw [h.at0 j hj.1 hj.2.1, h.subF f]; simp only [hj, h.opn.1 hj]
    · have hj' : ¬ Opn T n j := fun x => hj (h.opn.2 x)
      rw [if_neg (fun x => hj x.1), if_neg (fun x => hj' x.1)]
theorem Sh.pathE {R T : Tb} {n : Int} (h : Sh R T n) (wR : Wt R n) (wT : Wt T n) (i : Int) : Ac.path R n i = Ac.path T n i := by
  rw [← pthL_path wR, ← pthL_path wT]
  exact h.pathF _ _
theorem Sh.subE {R T : Tb} {n : Int} (h : Sh R T n) (wR : Wt R n) (wT : Wt T n) (i : Int) : subL R n i = subL T n i := by
  unfold subL high
  rw [h.pathE wR wT, h.subF]
  by_cases hi : Opn R n i
  · rw [if_pos hi, if_pos (h.opn.1 hi)]
  · rw [if_neg hi, if_neg (fun x => hi (h.opn.2 x))]
theorem vAlike (hN : 65 ≤ N) : ∀ ds, Sorts cAlike.sorts ds → tAlike.vc (J N) ds := by
  refine all_t fun T => all_i fun n => all_t fun R => all_i fun m => all_i fun i => all_n ?_
  set_option linter.unusedSimpArgs false in
  simp only [tAlike, Tree.vc, PE.den, E.den, dens, BO.ev, List.getElem?_cons_zero, List.getElem?_cons_succ, List.cons_append, List.nil_append, Option.some.injEq, D.i.injEq, D.t.injEq, exists_eq_left', exists_const, forall_const, forall_eq', one_ne, one_eq, min_i64, max_i64, min_u8, max_u8, min_u16, max_u16, tn2, tn3, tn5, act0, act1, act2, and_true, true_and, Jfn_0, Jfn_1, Jfn_2, Jfn_3, Jfn_4, Jfn_5, Jfn_6, Jfn_7, Jfn_8, Jfn_9, Jfn_10, Jfn_11, Jfn_12, Jfn_13, Jfn_14, Jfn_15, Jfn_16, Jfn_17, Jfn_18, Jfn_19, Jfn_20, Jfn_21, Jfn_22, Jfn_23, Jfn_24, Jfn_25, Jfn_26, Jfn_27, Jfn_28, Jfn_29, Jfn_30, Jfn_31, Jfn_32, Jfn_33, Jfn_34, Jfn_35, Jfn_36, Jfn_37, Jfn_38, Jfn_39, Jfn_40, Jfn_43, Jfn_44, Jfn_45, Jfn_46, Jfn_47, Jfn_48, Jfn_41, Jfn_42, Jpr_0, Jpr_1, Jpr_2, Jpr_3, Jpr_4, Jpr_5, Jpr_11, Jpr_6, Jpr_7, Jpr_8, Jpr_9, Jpr_10, Jpr_12, Jpr_13, Jpr_14, Jpr_15, Jpr_16, Jpr_17, Jpr_18, Jpr_19, Jpr_22, Jpr_23, Jpr_24, Jpr_25, Jpr_26, Jpr_27, Jpr_28, Jfn_49, Jfn_50, Jfn_51, Jfn_52, Jpr_31, Jpr_20, Jpr_21]
  rintro rfl w hR _ _ _ _ _ _
  have hA := ag_of w hR
  have wX := hA.wf w
  have wR := rwt wX
  have e1 := hR.sh.pathE wR w.toWt i
  have e2 := hR.sh.subE wR w.toWt i
  have hh := high_ok (i := i) wR
  refine ⟨wX, ?_⟩
  rintro _ _ _ _ _ _ _ _ _ _ _ _ _ _ _ _ _ _ _ _ _ _ _ _ _ _ _ _ _ _
  refine ⟨fun _ => ⟨fun _ => ⟨fun _ => ⟨fun _ => ⟨fun _ => ⟨fun _ => ⟨rsmall wX, fun _ _ _ _ => ⟨by omega, fun _ _ _ _ => ?_⟩⟩, fun x => x (hA.tight w.toWt i)⟩, fun x => x (hA.val i (by omega))⟩, fun x => x (hA.head w.toWt i)⟩, fun x => x (hA.err i)⟩, fun x => x (hA.val i (by omega))⟩, fun x => x (hA.val i (by omega))⟩
  rw [pthL_path wR, e1, e2]
  exact ⟨rfl, rfl, rfl, rfl⟩
theorem vRDoes : ∀ ds, Sorts rDoes.sorts ds → tRDoes.vc (J N) ds := by
  refine all_t fun R => all_i fun n => all_i fun k => all_i fun a => all_i fun b => all_n ?_
  set_option linter.unusedSimpArgs false in
  simp only [tRDoes, Tree.vc, PE.den, E.den, dens, BO.ev, List.getElem?_cons_zero, List.getElem?_cons_succ, List.cons_append, List.nil_append, Option.some.injEq, D.i.injEq, D.t.injEq, exists_eq_left', exists_const, forall_const, forall_eq', one_ne, one_eq, min_i64, max_i64, min_u8, max_u8, min_u16, max_u16, tn2, tn3, tn5, act0, act1, act2, and_true, true_and, Jfn_0, Jfn_1, Jfn_2, Jfn_3, Jfn_4, Jfn_5, Jfn_6, Jfn_7, Jfn_8, Jfn_9, Jfn_10, Jfn_11, Jfn_12, Jfn_13, Jfn_14, Jfn_15, Jfn_16, Jfn_17, Jfn_18, Jfn_19, Jfn_20, Jfn_21, Jfn_22, Jfn_23, Jfn_24, Jfn_25, Jfn_26, Jfn_27, Jfn_28, Jfn_29, Jfn_30, Jfn_31, Jfn_32, Jfn_33, Jfn_34, Jfn_35, Jfn_36, Jfn_37, Jfn_38, Jfn_39, Jfn_40, Jfn_43, Jfn_44, Jfn_45, Jfn_46, Jfn_47, Jfn_48, Jfn_41, Jfn_42, Jpr_0, Jpr_1, Jpr_2, Jpr_3, Jpr_4, Jpr_5, Jpr_11, Jpr_6, Jpr_7, Jpr_8, Jpr_9, Jpr_10, Jpr_12, Jpr_13, Jpr_14, Jpr_15, Jpr_16, Jpr_17, Jpr_18, Jpr_19, Jpr_22, Jpr_23, Jpr_24, Jpr_25, Jpr_26, Jpr_27, Jpr_28, Jfn_49, Jfn_50, Jfn_51, Jfn_52, Jpr_31, Jpr_20, Jpr_21]
  intro _ hk
  have ek : k.tmod 8 = k % 8 := Int.tmod_eq_emod_of_nonneg hk.1
  rw [ek]
  refine ⟨fun h0 => ?_, fun h0 => ⟨fun h1 => ?_, fun h1 => ⟨fun h2 => ?_, fun h2 => ⟨fun h3 => ?_, fun h3 => ⟨fun h4 => ?_, fun h4 => ?_⟩⟩⟩⟩⟩
  · rintro _ _ _ _ rfl rfl rfl hr; simpa [doT, doN, doR, doE, h0] using hr
  · rintro _ _ _ rfl rfl hr; simpa [doT, doN, doR, doE, h1] using hr
  · rintro _ hr; simpa [doT, doN, doR, doE, h2] using hr
  · rintro _ hr; simpa [doT, doN, doR, doE, h3] using hr
  · rintro _ hr; simpa [doT, doN, doR, doE, h4] using hr
  · rintro _ hr; simpa [doT, doN, doR, doE, h0, h1, h2, h3, h4] using hr
theorem vLPlays : ∀ ds, Sorts cPlays.sorts ds → tLPlays.vc (J N) ds := by
  refine all_i fun l => all_t fun L => all_i fun m => all_n ?_
  set_option linter.unusedSimpArgs false in
  simp only [tLPlays, Tree.vc, PE.den, E.den, dens, BO.ev, List.getElem?_cons_zero, List.getElem?_cons_succ, List.cons_append, List.nil_append, Option.some.injEq, D.i.injEq, D.t.injEq, exists_eq_left', exists_const, forall_const, forall_eq', one_ne, one_eq, min_i64, max_i64, min_u8, max_u8, min_u16, max_u16, tn2, tn3, tn5, act0, act1, act2, and_true, true_and, Jfn_0, Jfn_1, Jfn_2, Jfn_3, Jfn_4, Jfn_5, Jfn_6, Jfn_7, Jfn_8, Jfn_9, Jfn_10, Jfn_11, Jfn_12, Jfn_13, Jfn_14, Jfn_15, Jfn_16, Jfn_17, Jfn_18, Jfn_19, Jfn_20, Jfn_21, Jfn_22, Jfn_23, Jfn_24, Jfn_25, Jfn_26, Jfn_27, Jfn_28, Jfn_29, Jfn_30, Jfn_31, Jfn_32, Jfn_33, Jfn_34, Jfn_35, Jfn_36, Jfn_37, Jfn_38, Jfn_39, Jfn_40, Jfn_43, Jfn_44, Jfn_45, Jfn_46, Jfn_47, Jfn_48, Jfn_41, Jfn_42, Jpr_0, Jpr_1, Jpr_2, Jpr_3, Jpr_4, Jpr_5, Jpr_11, Jpr_6, Jpr_7, Jpr_8, Jpr_9, Jpr_10, Jpr_12, Jpr_13, Jpr_14, Jpr_15, Jpr_16, Jpr_17, Jpr_18, Jpr_19, Jpr_22, Jpr_23, Jpr_24, Jpr_25, Jpr_26, Jpr_27, Jpr_28, Jfn_49, Jfn_50, Jfn_51, Jfn_52, Jpr_31, Jpr_20, Jpr_21]
  intro hl hL
  refine ⟨fun _ => trivial, fun hm => ⟨fun _ => trivial, fun h0 => ⟨fun _ => trivial, fun h1 => ?_⟩⟩⟩
  have hm0 := hL.1
  refine ⟨hm0, newT_wf ⟨by omega, by omega⟩, fun r _ _ c hc => (tupd_ne (by omega)).symm, ?_⟩
  rintro T R n _ k hk hkm rfl w hR
  have hA := ag_of w hR
  have wX := hA.wf w
  refine ⟨fun hlt => ⟨hL.2 k hk hlt, ?_⟩, fun hge => ?_⟩
  · rintro _ _ _ _ _ _ _ _
    refine ⟨wX, ?_⟩
    rintro R' _ _ _ _ _ _ hR'
    have eN := hA.doN (L k 0) (L k 1) (L k 2)
    have aT := hA.doT w (L k 0) (L k 1) (L k 2)
    have w' : Wf (doT T n (L k 0) (L k 1) (L k 2)) (doN T n (L k 0) (L k 1) (L k 2)) := doT_wf w
    rw [← eN] at hR' ⊢
    have hR2 : RefOf R' (doT T n (L k 0) (L k 1) (L k 2)) (doN T n (L k 0) (L k 1) (L k 2)) := fun r a b c hc => (hR' r a b c hc).trans (aT r a b c (by omega)).symm
    have hA' := ag_of w' hR2
    have eO := hA'.ovL (doN T n (L k 0) (L k 1) (L k 2)).toNat
    have hol := ovL_len (doT T n (L k 0) (L k 1) (L k 2)) (doN T n (L k 0) (L k 1) (L k 2)) (doN T n (L k 0) (L k 1) (L k 2)).toNat
    have hn1 := w'.n1
    have hn2 := w'.n64
    refine ⟨w', ?_⟩
    rintro _ _ _ _
    refine ⟨fun x => x (hA.doR _ _ _), fun _ => ⟨fun x => x (hA.doE w _ _ _), fun _ => ⟨hA'.wf w', ?_⟩⟩⟩
    rintro _ _ _ _
    rw [← eO]
    exact ⟨by omega, by omega, rfl, rfl, rfl, hR2, by omega, by omega, by omega, by omega, by omega⟩
  · rintro _ _ _ _
    refine ⟨wX, ?_⟩
    have hn1 := w.n1
    have hn2 := w.n64
    rintro _ _ _ _
    refine ⟨by omega, by omega, fun b hb => ⟨fun _ => trivial, fun hb0 => hb.2 (fun r a b => ?_) hb0⟩⟩
    have e : ∀ c, c < 5 → svT T n r c = R r c := fun c hc => by unfold svT; rw [if_pos ⟨a, b, hc⟩, hR r a b c hc]
    exact ⟨e 0 (by omega), e 1 (by omega), e 2 (by omega), e 3 (by omega), by rw [e 4 (by omega)]⟩
end Go.Proofs.Ytafipmoglaepcaa.Ac
