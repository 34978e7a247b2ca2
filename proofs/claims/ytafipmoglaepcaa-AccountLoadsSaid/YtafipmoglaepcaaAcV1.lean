/-
  The conditions of the first functions hold. Conditions: none.
-/
import Derived.Test.YtafipmoglaepcaaAcT1
import Derived.Test.YtafipmoglaepcaaAcSem
import Derived.Test.YtafipmoglaepcaaAcWf2
namespace Go.Proofs.Ytafipmoglaepcaa.Ac
open Go Go.Sx
variable {N : Nat}

theorem vOpen : ∀ ds, Sorts cOpen.sorts ds → tOpen.vc (J N) ds := by
  refine all_t fun T => all_i fun n => all_i fun i => all_n ?_
  set_option linter.unusedSimpArgs false in
  simp only [tOpen, Tree.vc, PE.den, E.den, dens, BO.ev, List.getElem?_cons_zero, List.getElem?_cons_succ, List.cons_append, List.nil_append, Option.some.injEq, D.i.injEq, D.t.injEq, exists_eq_left', exists_const, forall_const, forall_eq', one_ne, one_eq, min_i64, max_i64, min_u8, max_u8, min_u16, max_u16, and_true, true_and, Jfn_0, Jfn_1, Jfn_2, Jfn_3, Jfn_4, Jfn_5, Jfn_6, Jfn_7, Jfn_8, Jfn_9, Jfn_10, Jfn_11, Jfn_12, Jfn_13, Jfn_14, Jfn_15, Jfn_16, Jfn_17, Jfn_18, Jfn_19, Jfn_20, Jfn_21, Jfn_22, Jfn_23, Jfn_24, Jfn_25, Jfn_26, Jfn_27, Jfn_28, Jfn_29, Jfn_30, Jfn_31, Jfn_32, Jfn_33, Jfn_34, Jfn_35, Jfn_36, Jfn_37, Jfn_38, Jfn_39, Jpr_0, Jpr_1, Jpr_2, Jpr_3, Jpr_4, Jpr_5, Jpr_6, Jpr_7, Jpr_8, Jpr_9, Jpr_10, Jpr_20, Jpr_21]
  refine ⟨fun h0 => ⟨fun h1 => ?_, fun h1 => fun h => h1 h.2.1⟩, fun h0 h => h0 h.1⟩
  by_cases h : T i 4 = 0
  · rw [if_pos h, if_pos ⟨h0, h1, h⟩]
  · rw [if_neg h, if_neg (fun x => h x.2.2)]
theorem vAdd : ∀ ds, Sorts cAdd.sorts ds → tAdd.vc (J N) ds := by
  refine all_t fun T => all_i fun n => all_i fun i => all_i fun d => all_n ?_
  set_option linter.unusedSimpArgs false in
  simp only [tAdd, Tree.vc, PE.den, E.den, dens, BO.ev, List.getElem?_cons_zero, List.getElem?_cons_succ, List.cons_append, List.nil_append, Option.some.injEq, D.i.injEq, D.t.injEq, exists_eq_left', exists_const, forall_const, forall_eq', one_ne, one_eq, min_i64, max_i64, min_u8, max_u8, min_u16, max_u16, and_true, true_and, Jfn_0, Jfn_1, Jfn_2, Jfn_3, Jfn_4, Jfn_5, Jfn_6, Jfn_7, Jfn_8, Jfn_9, Jfn_10, Jfn_11, Jfn_12, Jfn_13, Jfn_14, Jfn_15, Jfn_16, Jfn_17, Jfn_18, Jfn_19, Jfn_20, Jfn_21, Jfn_22, Jfn_23, Jfn_24, Jfn_25, Jfn_26, Jfn_27, Jfn_28, Jfn_29, Jfn_30, Jfn_31, Jfn_32, Jfn_33, Jfn_34, Jfn_35, Jfn_36, Jfn_37, Jfn_38, Jfn_39, Jpr_0, Jpr_1, Jpr_2, Jpr_3, Jpr_4, Jpr_5, Jpr_6, Jpr_7, Jpr_8, Jpr_9, Jpr_10, Jpr_20, Jpr_21]
  refine fun w hf => ⟨AddAt.first, fun S q h => ⟨fun ho => ?_, fun ho => (h.last (fun x => ho (h.shape.opn.2 x))).symm⟩⟩
  have ho' := h.shape.opn.1 ho
  have hm : q ∈ path T n q := by rw [path_open w ho']; exact List.mem_cons_self
  obtain ⟨hm', hq⟩ := h.1 q hm
  have hl := meas_lt w ho'
  refine ⟨ho.1, ho.2.1, ?_, ?_, by omega, by rw [(h.shape q).1]; omega⟩
  · rw [hq 5]; exact hf q hm'
  · rw [(h.shape q).1]
    refine h.next w ho' fun r c => ?_
    unfold tupd
    by_cases hr : r = q
    · subst hr
      by_cases h3 : c = 3
      · subst h3; simp; omega
      · by_cases h5 : c = 5
        · subst h5; simp
        · simp [h3, h5]
    · simp [hr]

theorem tgt_open {T : Tb} {n q b : Int} (w : Wt T n) (h : Opn T n q) : tgt T n q b = tgt T n (T q 0) (if room T q < room T b then q else b) := by
  unfold tgt; rw [path_open w h]; rfl
theorem tgt_not {T : Tb} {n q b : Int} (h : ¬ Opn T n q) : tgt T n q b = b := by
  unfold tgt; rw [path_not h]; rfl
theorem room_fits {T : Tb} {n q : Int} (w : Wf T n) (h : Opn T n q) : -9223372036854775808 ≤ T q 1 - T q 5 ∧ T q 1 - T q 5 ≤ 9223372036854775807 := by
  have := w.rng q h; omega
theorem vTight : ∀ ds, Sorts cTight.sorts ds → tTight.vc (J N) ds := by
  refine all_t fun T => all_i fun n => all_i fun i => all_n ?_
  set_option linter.unusedSimpArgs false in
  simp only [tTight, Tree.vc, PE.den, E.den, dens, BO.ev, List.getElem?_cons_zero, List.getElem?_cons_succ, List.cons_append, List.nil_append, Option.some.injEq, D.i.injEq, D.t.injEq, exists_eq_left', exists_const, forall_const, forall_eq', one_ne, one_eq, min_i64, max_i64, min_u8, max_u8, min_u16, max_u16, and_true, true_and, Jfn_0, Jfn_1, Jfn_2, Jfn_3, Jfn_4, Jfn_5, Jfn_6, Jfn_7, Jfn_8, Jfn_9, Jfn_10, Jfn_11, Jfn_12, Jfn_13, Jfn_14, Jfn_15, Jfn_16, Jfn_17, Jfn_18, Jfn_19, Jfn_20, Jfn_21, Jfn_22, Jfn_23, Jfn_24, Jfn_25, Jfn_26, Jfn_27, Jfn_28, Jfn_29, Jfn_30, Jfn_31, Jfn_32, Jfn_33, Jfn_34, Jfn_35, Jfn_36, Jfn_37, Jfn_38, Jfn_39, Jpr_0, Jpr_1, Jpr_2, Jpr_3, Jpr_4, Jpr_5, Jpr_6, Jpr_7, Jpr_8, Jpr_9, Jpr_10, Jpr_20, Jpr_21]
  refine fun w => ⟨fun h => ?_, fun h => fun q b e hb => ⟨fun hq => ?_, fun hq => ?_⟩⟩
  · simp [tight, err, h]
  · have hl := meas_lt w.toWt hq
    have t1 := tgt_open (b := b) w.toWt hq
    refine ⟨hq.1, hq.2.1, room_fits w hq, hb.1, hb.2.1, room_fits w hb, fun hlt => ?_, fun hge => ?_⟩
    · refine ⟨?_, by omega, by omega⟩
      rw [e, t1, if_pos (by unfold room; exact hlt)]
    · refine ⟨?_, by omega, by omega⟩
      rw [e, t1, if_neg (by unfold room; exact hge)]
  · rw [tgt_not hq] at e
    have h' := Decidable.not_not.1 h
    rw [tight, if_pos h', err, if_pos h']
    exact ⟨e, rfl⟩
theorem tight_opn {T : Tb} {n i : Int} (w : Wt T n) (h : Opn T n i) : Opn T n (tight T n i) := by
  rw [tight, if_pos h]; exact tgt_opn w i i h
theorem vHead : ∀ ds, Sorts cHead.sorts ds → tHead.vc (J N) ds := by
  refine all_t fun T => all_i fun n => all_i fun i => all_n ?_
  set_option linter.unusedSimpArgs false in
  simp only [tHead, Tree.vc, PE.den, E.den, dens, BO.ev, List.getElem?_cons_zero, List.getElem?_cons_succ, List.cons_append, List.nil_append, Option.some.injEq, D.i.injEq, D.t.injEq, exists_eq_left', exists_const, forall_const, forall_eq', one_ne, one_eq, min_i64, max_i64, min_u8, max_u8, min_u16, max_u16, tn2, tn3, tn5, and_true, true_and, Jfn_0, Jfn_1, Jfn_2, Jfn_3, Jfn_4, Jfn_5, Jfn_6, Jfn_7, Jfn_8, Jfn_9, Jfn_10, Jfn_11, Jfn_12, Jfn_13, Jfn_14, Jfn_15, Jfn_16, Jfn_17, Jfn_18, Jfn_19, Jfn_20, Jfn_21, Jfn_22, Jfn_23, Jfn_24, Jfn_25, Jfn_26, Jfn_27, Jfn_28, Jfn_29, Jfn_30, Jfn_31, Jfn_32, Jfn_33, Jfn_34, Jfn_35, Jfn_36, Jfn_37, Jfn_38, Jfn_39, Jpr_0, Jpr_1, Jpr_2, Jpr_3, Jpr_4, Jpr_5, Jpr_6, Jpr_7, Jpr_8, Jpr_9, Jpr_10, Jpr_20, Jpr_21]
  rintro w _ _ rfl rfl
  by_cases h : Opn T n i
  · have ho := tight_opn w.toWt h
    refine ⟨fun e => by simp [err, h] at e, fun _ => ⟨ho.1, ho.2.1, room_fits w ho, ?_, by simp [err, h]⟩⟩
    rw [head, if_pos h, tight, if_pos h]; rfl
  · exact ⟨fun _ => by rw [head, if_neg h], fun e => by simp [err, h] at e⟩
theorem vUsed : ∀ ds, Sorts cUsed.sorts ds → tUsed.vc (J N) ds := by
  refine all_t fun T => all_i fun n => all_i fun i => all_n ?_
  set_option linter.unusedSimpArgs false in
  simp only [tUsed, Tree.vc, PE.den, E.den, dens, BO.ev, List.getElem?_cons_zero, List.getElem?_cons_succ, List.cons_append, List.nil_append, Option.some.injEq, D.i.injEq, D.t.injEq, exists_eq_left', exists_const, forall_const, forall_eq', one_ne, one_eq, min_i64, max_i64, min_u8, max_u8, min_u16, max_u16, tn2, tn3, tn5, and_true, true_and, Jfn_0, Jfn_1, Jfn_2, Jfn_3, Jfn_4, Jfn_5, Jfn_6, Jfn_7, Jfn_8, Jfn_9, Jfn_10, Jfn_11, Jfn_12, Jfn_13, Jfn_14, Jfn_15, Jfn_16, Jfn_17, Jfn_18, Jfn_19, Jfn_20, Jfn_21, Jfn_22, Jfn_23, Jfn_24, Jfn_25, Jfn_26, Jfn_27, Jfn_28, Jfn_29, Jfn_30, Jfn_31, Jfn_32, Jfn_33, Jfn_34, Jfn_35, Jfn_36, Jfn_37, Jfn_38, Jfn_39, Jpr_0, Jpr_1, Jpr_2, Jpr_3, Jpr_4, Jpr_5, Jpr_6, Jpr_7, Jpr_8, Jpr_9, Jpr_10, Jpr_20, Jpr_21]
  refine fun w => ⟨fun h => by simp [val, err, h], fun h => ?_⟩
  have h := Decidable.not_not.1 h
  simp [val, err, h, h.1, h.2.1]
theorem vPeak : ∀ ds, Sorts cPeak.sorts ds → tPeak.vc (J N) ds := by
  refine all_t fun T => all_i fun n => all_i fun i => all_n ?_
  set_option linter.unusedSimpArgs false in
  simp only [tPeak, Tree.vc, PE.den, E.den, dens, BO.ev, List.getElem?_cons_zero, List.getElem?_cons_succ, List.cons_append, List.nil_append, Option.some.injEq, D.i.injEq, D.t.injEq, exists_eq_left', exists_const, forall_const, forall_eq', one_ne, one_eq, min_i64, max_i64, min_u8, max_u8, min_u16, max_u16, tn2, tn3, tn5, and_true, true_and, Jfn_0, Jfn_1, Jfn_2, Jfn_3, Jfn_4, Jfn_5, Jfn_6, Jfn_7, Jfn_8, Jfn_9, Jfn_10, Jfn_11, Jfn_12, Jfn_13, Jfn_14, Jfn_15, Jfn_16, Jfn_17, Jfn_18, Jfn_19, Jfn_20, Jfn_21, Jfn_22, Jfn_23, Jfn_24, Jfn_25, Jfn_26, Jfn_27, Jfn_28, Jfn_29, Jfn_30, Jfn_31, Jfn_32, Jfn_33, Jfn_34, Jfn_35, Jfn_36, Jfn_37, Jfn_38, Jfn_39, Jpr_0, Jpr_1, Jpr_2, Jpr_3, Jpr_4, Jpr_5, Jpr_6, Jpr_7, Jpr_8, Jpr_9, Jpr_10, Jpr_20, Jpr_21]
  refine fun w => ⟨fun h => by simp [val, err, h], fun h => ?_⟩
  have h := Decidable.not_not.1 h
  simp [val, err, h, h.1, h.2.1]
theorem vLimit : ∀ ds, Sorts cLimit.sorts ds → tLimit.vc (J N) ds := by
  refine all_t fun T => all_i fun n => all_i fun i => all_i fun d => all_n ?_
  set_option linter.unusedSimpArgs false in
  simp only [tLimit, Tree.vc, PE.den, E.den, dens, BO.ev, List.getElem?_cons_zero, List.getElem?_cons_succ, List.cons_append, List.nil_append, Option.some.injEq, D.i.injEq, D.t.injEq, exists_eq_left', exists_const, forall_const, forall_eq', one_ne, one_eq, min_i64, max_i64, min_u8, max_u8, min_u16, max_u16, tn2, tn3, tn5, and_true, true_and, Jfn_0, Jfn_1, Jfn_2, Jfn_3, Jfn_4, Jfn_5, Jfn_6, Jfn_7, Jfn_8, Jfn_9, Jfn_10, Jfn_11, Jfn_12, Jfn_13, Jfn_14, Jfn_15, Jfn_16, Jfn_17, Jfn_18, Jfn_19, Jfn_20, Jfn_21, Jfn_22, Jfn_23, Jfn_24, Jfn_25, Jfn_26, Jfn_27, Jfn_28, Jfn_29, Jfn_30, Jfn_31, Jfn_32, Jfn_33, Jfn_34, Jfn_35, Jfn_36, Jfn_37, Jfn_38, Jfn_39, Jpr_0, Jpr_1, Jpr_2, Jpr_3, Jpr_4, Jpr_5, Jpr_6, Jpr_7, Jpr_8, Jpr_9, Jpr_10, Jpr_20, Jpr_21]
  intro w
  by_cases h : Opn T n i
  · refine ⟨fun e => (e h).elim, fun _ => ⟨fun h0 => ?_, fun h0 => ⟨fun h1 => ?_, fun h1 => ⟨h.1, h.2.1, ?_⟩⟩⟩⟩
    all_goals simp [slT, slE, outs, h]
    all_goals first | omega | (intros; omega) | skip
  · exact ⟨fun _ => by simp [slT, slE, h], fun e => (e h).elim⟩
theorem vIndex : ∀ ds, Sorts cIndex.sorts ds → tIndex.vc (J N) ds := by
  refine all_t fun T => all_i fun n => all_n ?_
  set_option linter.unusedSimpArgs false in
  simp only [tIndex, Tree.vc, PE.den, E.den, dens, BO.ev, List.getElem?_cons_zero, List.getElem?_cons_succ, List.cons_append, List.nil_append, Option.some.injEq, D.i.injEq, D.t.injEq, exists_eq_left', exists_const, forall_const, forall_eq', one_ne, one_eq, min_i64, max_i64, min_u8, max_u8, min_u16, max_u16, tn2, tn3, tn5, and_true, true_and, Jfn_0, Jfn_1, Jfn_2, Jfn_3, Jfn_4, Jfn_5, Jfn_6, Jfn_7, Jfn_8, Jfn_9, Jfn_10, Jfn_11, Jfn_12, Jfn_13, Jfn_14, Jfn_15, Jfn_16, Jfn_17, Jfn_18, Jfn_19, Jfn_20, Jfn_21, Jfn_22, Jfn_23, Jfn_24, Jfn_25, Jfn_26, Jfn_27, Jfn_28, Jfn_29, Jfn_30, Jfn_31, Jfn_32, Jfn_33, Jfn_34, Jfn_35, Jfn_36, Jfn_37, Jfn_38, Jfn_39, Jpr_0, Jpr_1, Jpr_2, Jpr_3, Jpr_4, Jpr_5, Jpr_6, Jpr_7, Jpr_8, Jpr_9, Jpr_10, Jpr_20, Jpr_21]
  intro w
  have hn := w.n1
  have hn2 := w.n64
  refine ⟨by omega, fun k h0 hk e => ⟨fun hlt => ?_, fun hge => ?_⟩⟩
  · have t : (n - k).toNat = (n - (k + 1)).toNat + 1 := by omega
    have s : fc T n k = if T k 4 ≠ 0 then k else fc T n (k + 1) := by
      unfold fc; rw [t]; simp only [fcF]; rw [if_pos hlt]
    refine ⟨fun h4 => ?_, fun h4 => ⟨by omega, by omega, by omega, ?_, by omega, by omega⟩⟩
    · rw [e, s, if_pos h4]
    · rw [e, s, if_neg (by simp [h4])]
  · rw [e]
    have : (n - k).toNat = 0 := by omega
    unfold fc; rw [this]; rfl
end Go.Proofs.Ytafipmoglaepcaa.Ac
