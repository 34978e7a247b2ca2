/-
  The conditions of the reference's functions hold. Conditions: none.
-/
import Derived.Test.YtafipmoglaepcaaAcT3
import Derived.Test.YtafipmoglaepcaaAcV6
namespace Go.Proofs.Ytafipmoglaepcaa.Ac
open Go Go.Sx
variable {N : Nat}

theorem vROpen : ∀ ds, Sorts rOpen.sorts ds → tROpen.vc (J N) ds := by
  refine all_t fun T => all_i fun n => all_i fun i => all_n ?_
  set_option linter.unusedSimpArgs false in
  simp only [tROpen, Tree.vc, PE.den, E.den, dens, BO.ev, List.getElem?_cons_zero, List.getElem?_cons_succ, List.cons_append, List.nil_append, Option.some.injEq, D.i.injEq, D.t.injEq, exists_eq_left', exists_const, forall_const, forall_eq', one_ne, one_eq, min_i64, max_i64, min_u8, max_u8, min_u16, max_u16, tn2, tn3, tn5, act0, act1, act2, and_true, true_and, Jfn_0, Jfn_1, Jfn_2, Jfn_3, Jfn_4, Jfn_5, Jfn_6, Jfn_7, Jfn_8, Jfn_9, Jfn_10, Jfn_11, Jfn_12, Jfn_13, Jfn_14, Jfn_15, Jfn_16, Jfn_17, Jfn_18, Jfn_19, Jfn_20, Jfn_21, Jfn_22, Jfn_23, Jfn_24, Jfn_25, Jfn_26, Jfn_27, Jfn_28, Jfn_29, Jfn_30, Jfn_31, Jfn_32, Jfn_33, Jfn_34, Jfn_35, Jfn_36, Jfn_37, Jfn_38, Jfn_39, Jfn_40, Jfn_43, Jfn_44, Jfn_45, Jfn_46, Jfn_47, Jfn_48, Jfn_41, Jfn_42, Jpr_0, Jpr_1, Jpr_2, Jpr_3, Jpr_4, Jpr_5, Jpr_11, Jpr_6, Jpr_7, Jpr_8, Jpr_9, Jpr_10, Jpr_12, Jpr_13, Jpr_14, Jpr_15, Jpr_16, Jpr_17, Jpr_18, Jpr_19, Jpr_22, Jpr_23, Jpr_24, Jpr_25, Jpr_26, Jpr_27, Jpr_28, Jpr_20, Jpr_21]
  refine ⟨fun h0 => ⟨fun h1 => ?_, fun h1 => fun h => h1 h.2.1⟩, fun h0 h => h0 h.1⟩
  by_cases h : T i 4 = 0
  · rw [if_pos h, if_pos ⟨h0, h1, h⟩]
  · rw [if_neg h, if_neg (fun x => h x.2.2)]
theorem vROn : ∀ ds, Sorts rOn.sorts ds → tROn.vc (J N) ds := by
  refine all_t fun L => all_i fun m => all_i fun x => all_n ?_
  set_option linter.unusedSimpArgs false in
  simp only [tROn, Tree.vc, PE.den, E.den, dens, BO.ev, List.getElem?_cons_zero, List.getElem?_cons_succ, List.cons_append, List.nil_append, Option.some.injEq, D.i.injEq, D.t.injEq, exists_eq_left', exists_const, forall_const, forall_eq', one_ne, one_eq, min_i64, max_i64, min_u8, max_u8, min_u16, max_u16, tn2, tn3, tn5, act0, act1, act2, and_true, true_and, Jfn_0, Jfn_1, Jfn_2, Jfn_3, Jfn_4, Jfn_5, Jfn_6, Jfn_7, Jfn_8, Jfn_9, Jfn_10, Jfn_11, Jfn_12, Jfn_13, Jfn_14, Jfn_15, Jfn_16, Jfn_17, Jfn_18, Jfn_19, Jfn_20, Jfn_21, Jfn_22, Jfn_23, Jfn_24, Jfn_25, Jfn_26, Jfn_27, Jfn_28, Jfn_29, Jfn_30, Jfn_31, Jfn_32, Jfn_33, Jfn_34, Jfn_35, Jfn_36, Jfn_37, Jfn_38, Jfn_39, Jfn_40, Jfn_43, Jfn_44, Jfn_45, Jfn_46, Jfn_47, Jfn_48, Jfn_41, Jfn_42, Jpr_0, Jpr_1, Jpr_2, Jpr_3, Jpr_4, Jpr_5, Jpr_11, Jpr_6, Jpr_7, Jpr_8, Jpr_9, Jpr_10, Jpr_12, Jpr_13, Jpr_14, Jpr_15, Jpr_16, Jpr_17, Jpr_18, Jpr_19, Jpr_22, Jpr_23, Jpr_24, Jpr_25, Jpr_26, Jpr_27, Jpr_28, Jpr_20, Jpr_21]
  intro hm hm2
  refine ⟨fun j h0 h1 => by omega, fun k h0 hk h => ⟨fun hlt => ⟨fun e => ?_, fun e => ⟨by omega, by omega, by omega, fun j a b => ?_, by omega, by omega⟩⟩, fun hge => ?_⟩⟩
  · exact ⟨fun _ => ⟨k, h0, hlt, e⟩, fun _ => by omega⟩
  · by_cases hj : j = k
    · rw [hj]; exact e
    · exact h j a (by omega)
  · refine ⟨fun y => (y rfl).elim, fun ⟨j, a, b, c⟩ => (h j a (by omega) c).elim⟩
theorem vRPath : ∀ ds, Sorts rPath.sorts ds → tRPath.vc (J N) ds := by
  refine all_t fun R => all_i fun n => all_i fun i => all_n ?_
  set_option linter.unusedSimpArgs false in
  simp only [tRPath, Tree.vc, PE.den, E.den, dens, BO.ev, List.getElem?_cons_zero, List.getElem?_cons_succ, List.cons_append, List.nil_append, Option.some.injEq, D.i.injEq, D.t.injEq, exists_eq_left', exists_const, forall_const, forall_eq', one_ne, one_eq, min_i64, max_i64, min_u8, max_u8, min_u16, max_u16, tn2, tn3, tn5, act0, act1, act2, and_true, true_and, Jfn_0, Jfn_1, Jfn_2, Jfn_3, Jfn_4, Jfn_5, Jfn_6, Jfn_7, Jfn_8, Jfn_9, Jfn_10, Jfn_11, Jfn_12, Jfn_13, Jfn_14, Jfn_15, Jfn_16, Jfn_17, Jfn_18, Jfn_19, Jfn_20, Jfn_21, Jfn_22, Jfn_23, Jfn_24, Jfn_25, Jfn_26, Jfn_27, Jfn_28, Jfn_29, Jfn_30, Jfn_31, Jfn_32, Jfn_33, Jfn_34, Jfn_35, Jfn_36, Jfn_37, Jfn_38, Jfn_39, Jfn_40, Jfn_43, Jfn_44, Jfn_45, Jfn_46, Jfn_47, Jfn_48, Jfn_41, Jfn_42, Jpr_0, Jpr_1, Jpr_2, Jpr_3, Jpr_4, Jpr_5, Jpr_11, Jpr_6, Jpr_7, Jpr_8, Jpr_9, Jpr_10, Jpr_12, Jpr_13, Jpr_14, Jpr_15, Jpr_16, Jpr_17, Jpr_18, Jpr_19, Jpr_22, Jpr_23, Jpr_24, Jpr_25, Jpr_26, Jpr_27, Jpr_28, Jpr_20, Jpr_21]
  intro hsm
  obtain ⟨hn0, hn64⟩ := hsm
  refine ⟨⟨[], by simp [pthL], lstT_nil.symm, rfl, by omega⟩, ?_⟩
  rintro S m q ⟨l, e1, rfl, rfl, hm⟩
  refine ⟨fun ho => ⟨fun hle => ?_, fun hgt => ?_⟩, fun ho => ?_⟩
  · have ef : (n + 1).toNat - l.length = ((n + 1).toNat - (l ++ [q]).length) + 1 := by simp; omega
    refine ⟨by omega, ho.1, ho.2.1, ⟨l ++ [q], ?_, lstT_next l q, by simp, by omega⟩, by omega, by omega⟩
    rw [e1, ef]
    simp only [pathF, if_pos ho]
    simp
  · have ef : (n + 1).toNat - l.length = 0 := by omega
    rw [ef] at e1
    simp only [pathF, List.append_nil] at e1
    rw [e1]; exact ⟨rfl, rfl⟩
  · have : pathF R n ((n + 1).toNat - l.length) q = [] := by
      cases (n + 1).toNat - l.length <;> simp [pathF, ho]
    rw [this, List.append_nil] at e1
    rw [e1]; exact ⟨rfl, rfl⟩
theorem pthL_len {R : Tb} {n : Int} (h : Small n) (i : Int) : ((pthL R n i).length : Int) ≤ 65 := by
  have := pathF_len R n (n + 1).toNat i
  obtain ⟨h0, h1⟩ := h
  unfold pthL; omega
theorem allK_step {R : Tb} {n i k : Int} (h : 0 ≤ k) : allK R n i (k + 1).toNat = allK R n i k.toNat + (if Opn R n k ∧ i ∈ pthL R n k then R k 2 else 0) := by
  rw [show (k + 1).toNat = k.toNat + 1 by omega]
  unfold allK
  simp only [sumN]
  rw [show ((k.toNat : Nat) : Int) = k by omega]
theorem allK_rng {R : Tb} {n i : Int} (h : OwnRng R n) : ∀ k : Nat, (k : Int) ≤ n → 0 ≤ allK R n i k ∧ allK R n i k ≤ 4096 * k
  | 0, _ => by simp [allK, sumN]
  | k + 1, hk => by
    have := allK_rng h (i := i) k (by omega)
    have hs := h k (by omega) (by omega)
    unfold allK at this ⊢
    simp only [sumN]
    split <;> omega
theorem vRAll : ∀ ds, Sorts rAll.sorts ds → tRAll.vc (J N) ds := by
  refine all_t fun R => all_i fun n => all_i fun i => all_n ?_
  set_option linter.unusedSimpArgs false in
  simp only [tRAll, Tree.vc, PE.den, E.den, dens, BO.ev, List.getElem?_cons_zero, List.getElem?_cons_succ, List.cons_append, List.nil_append, Option.some.injEq, D.i.injEq, D.t.injEq, exists_eq_left', exists_const, forall_const, forall_eq', one_ne, one_eq, min_i64, max_i64, min_u8, max_u8, min_u16, max_u16, tn2, tn3, tn5, act0, act1, act2, and_true, true_and, Jfn_0, Jfn_1, Jfn_2, Jfn_3, Jfn_4, Jfn_5, Jfn_6, Jfn_7, Jfn_8, Jfn_9, Jfn_10, Jfn_11, Jfn_12, Jfn_13, Jfn_14, Jfn_15, Jfn_16, Jfn_17, Jfn_18, Jfn_19, Jfn_20, Jfn_21, Jfn_22, Jfn_23, Jfn_24, Jfn_25, Jfn_26, Jfn_27, Jfn_28, Jfn_29, Jfn_30, Jfn_31, Jfn_32, Jfn_33, Jfn_34, Jfn_35, Jfn_36, Jfn_37, Jfn_38, Jfn_39, Jfn_40, Jfn_43, Jfn_44, Jfn_45, Jfn_46, Jfn_47, Jfn_48, Jfn_41, Jfn_42, Jpr_0, Jpr_1, Jpr_2, Jpr_3, Jpr_4, Jpr_5, Jpr_11, Jpr_6, Jpr_7, Jpr_8, Jpr_9, Jpr_10, Jpr_12, Jpr_13, Jpr_14, Jpr_15, Jpr_16, Jpr_17, Jpr_18, Jpr_19, Jpr_22, Jpr_23, Jpr_24, Jpr_25, Jpr_26, Jpr_27, Jpr_28, Jpr_20, Jpr_21]
  intro hsm hown
  have hn0 := hsm.1
  have hn1 := hsm.2
  refine ⟨hn0, by simp [allK, sumN], ?_⟩
  rintro _ k h0 hk rfl
  refine ⟨fun hlt => ?_, fun hge => ?_⟩
  · have hst := allK_step (R := R) (n := n) (i := i) h0
    have hr := allK_rng hown (i := i) k.toNat (by omega)
    have hw := hown k h0 hlt
    have hl := pthL_len (R := R) hsm k
    refine ⟨fun ho => ?_, fun ho => ?_⟩
    · rintro _ _ rfl rfl
      refine ⟨by omega, by omega, fun b hb => ⟨fun y => ?_, fun y => ?_⟩⟩
      · rw [lstT_mem] at hb
        rw [if_pos ⟨ho, hb.1 y⟩] at hst
        exact ⟨by omega, by omega, by omega, by omega, by omega, by omega, by omega⟩
      · rw [lstT_mem] at hb
        rw [if_neg (fun x => (hb.2 x.2) y)] at hst
        exact ⟨by omega, by omega, by omega, by omega, by omega, by omega⟩
    · rw [if_neg (fun x => ho x.1)] at hst
      exact ⟨by omega, by omega, by omega, by omega, by omega, by omega⟩
  · have : k = n := by omega
    subst this
    rfl
theorem peaksR_sh (R : Tb) (n k : Int) : Sh (peaksR R n k) R n := ⟨fun r _ _ => by simp [peaksR], fun r _ _ => by simp [peaksR], fun r _ _ => by simp [peaksR]⟩
theorem peaksR_next {R : Tb} {n k : Int} (h0 : 0 ≤ k) (h1 : k < n) : peaksR R n (k + 1) = if Opn R n k then tupd (peaksR R n k) k 3 (if allR R n k > R k 3 then allR R n k else R k 3) else peaksR R n k := by
  funext r c
  by_cases ho : Opn R n k
  · rw [if_pos ho]
    by_cases e : r = k ∧ c = 3
    · obtain ⟨rfl, rfl⟩ := e
      rw [tupd_same]
      unfold peaksR
      rw [if_pos ⟨rfl, h0, by omega, ho⟩]
    · rw [tupd_ne e]
      unfold peaksR
      by_cases hc : c = 3 ∧ 0 ≤ r ∧ r < k ∧ Opn R n r
      · rw [if_pos hc, if_pos ⟨hc.1, hc.2.1, by omega, hc.2.2.2⟩]
      · rw [if_neg hc, if_neg (fun x => hc ⟨x.1, x.2.1, by have : r ≠ k := fun y => e ⟨y, x.1⟩; omega, x.2.2.2⟩)]
  · rw [if_neg ho]
    unfold peaksR
    by_cases hc : c = 3 ∧ 0 ≤ r ∧ r < k ∧ Opn R n r
    · rw [if_pos hc, if_pos ⟨hc.1, hc.2.1, by omega, hc.2.2.2⟩]
    · rw [if_neg hc, if_neg (fun x => hc ⟨x.1, x.2.1, by have : r ≠ k := fun y => ho (y ▸ x.2.2.2); omega, x.2.2.2⟩)]
theorem vRPeaks : ∀ ds, Sorts rPeaks.sorts ds → tRPeaks.vc (J N) ds := by
  refine all_t fun R => all_i fun n => all_n ?_
  set_option linter.unusedSimpArgs false in
  simp only [tRPeaks, Tree.vc, PE.den, E.den, dens, BO.ev, List.getElem?_cons_zero, List.getElem?_cons_succ, List.cons_append, List.nil_append, Option.some.injEq, D.i.injEq, D.t.injEq, exists_eq_left', exists_const, forall_const, forall_eq', one_ne, one_eq, min_i64, max_i64, min_u8, max_u8, min_u16, max_u16, tn2, tn3, tn5, act0, act1, act2, and_true, true_and, Jfn_0, Jfn_1, Jfn_2, Jfn_3, Jfn_4, Jfn_5, Jfn_6, Jfn_7, Jfn_8, Jfn_9, Jfn_10, Jfn_11, Jfn_12, Jfn_13, Jfn_14, Jfn_15, Jfn_16, Jfn_17, Jfn_18, Jfn_19, Jfn_20, Jfn_21, Jfn_22, Jfn_23, Jfn_24, Jfn_25, Jfn_26, Jfn_27, Jfn_28, Jfn_29, Jfn_30, Jfn_31, Jfn_32, Jfn_33, Jfn_34, Jfn_35, Jfn_36, Jfn_37, Jfn_38, Jfn_39, Jfn_40, Jfn_43, Jfn_44, Jfn_45, Jfn_46, Jfn_47, Jfn_48, Jfn_41, Jfn_42, Jpr_0, Jpr_1, Jpr_2, Jpr_3, Jpr_4, Jpr_5, Jpr_11, Jpr_6, Jpr_7, Jpr_8, Jpr_9, Jpr_10, Jpr_12, Jpr_13, Jpr_14, Jpr_15, Jpr_16, Jpr_17, Jpr_18, Jpr_19, Jpr_22, Jpr_23, Jpr_24, Jpr_25, Jpr_26, Jpr_27, Jpr_28, Jpr_20, Jpr_21]
  intro hsm hown
  have hn0 := hsm.1
  have hn1 := hsm.2
  refine ⟨hn0, by funext r c; unfold peaksR; rw [if_neg (by omega)], ?_⟩
  rintro _ k h0 hk rfl
  refine ⟨fun hlt => ?_, fun hge => ?_⟩
  · have hsh := peaksR_sh R n k
    have hnx := peaksR_next (R := R) h0 hlt
    have e3 : peaksR R n k k 3 = R k 3 := by unfold peaksR; rw [if_neg (by omega)]
    have eA : allR (peaksR R n k) n k = allR R n k := hsh.all k (by omega)
    refine ⟨fun ho => ⟨hsm, fun r a b => by rw [hsh.at2 r a b]; exact hown r a b, ?_⟩, fun ho => ?_⟩
    · rw [if_pos (hsh.opn.1 ho)] at hnx
      rw [eA, e3]
      exact ⟨by omega, by omega, by omega, hnx, by omega, by omega⟩
    · rw [if_neg (fun x => ho (hsh.opn.2 x))] at hnx
      exact ⟨by omega, by omega, by omega, hnx, by omega, by omega⟩
  · have : k = n := by omega
    subst this
    rfl

theorem ex_fits {R : Tb} {n q : Int} (w : Wf (exT R n) n) (h : Opn R n q) : -9223372036854775808 ≤ R q 1 - allR R n q ∧ R q 1 - allR R n q ≤ 9223372036854775807 := by
  have := room_fits w (exT_opn.2 h)
  rw [exT_5, exT_ne _ _ _ (by omega)] at this
  exact this
theorem ex_val {R : Tb} {n i : Int} (h : Opn R n i) {c : Nat} (hc : c ≠ 5) : val (exT R n) n i c = R i c := by rw [val_opn (exT_opn.2 h), exT_ne _ _ _ hc]
theorem ex_val5 {R : Tb} {n i : Int} (h : Opn R n i) : val (exT R n) n i 5 = allR R n i := by rw [val_opn (exT_opn.2 h), exT_5]
theorem ex_err {R : Tb} {n i : Int} : err (exT R n) n i = err R n i := by
  unfold err
  by_cases h : Opn R n i
  · rw [if_pos h, if_pos (exT_opn.2 h)]
  · rw [if_neg h, if_neg (fun x => h (exT_opn.1 x))]
theorem pth_get {R : Tb} {n i k : Int} (h0 : 0 ≤ k) (h1 : k < ((pthL R n i).length : Int)) : ∃ q, (pthL R n i)[k.toNat]? = some q ∧ lstT (pthL R n i) k 0 = q ∧ q ∈ pthL R n i ∧ Opn R n q := by
  have hk : k.toNat < (pthL R n i).length := by omega
  refine ⟨(pthL R n i)[k.toNat], List.getElem?_eq_getElem hk, ?_, List.getElem_mem hk, ?_⟩
  · have := lstT_get hk
    rw [show ((k.toNat : Nat) : Int) = k by omega] at this
    exact this
  · exact pathF_opn R n _ _ (List.getElem_mem hk)
theorem vRTight : ∀ ds, Sorts rTight.sorts ds → tRTight.vc (J N) ds := by
  refine all_t fun R => all_i fun n => all_i fun i => all_n ?_
  set_option linter.unusedSimpArgs false in
  simp only [tRTight, Tree.vc, PE.den, E.den, dens, BO.ev, List.getElem?_cons_zero, List.getElem?_cons_succ, List.cons_append, List.nil_append, Option.some.injEq, D.i.injEq, D.t.injEq, exists_eq_left', exists_const, forall_const, forall_eq', one_ne, one_eq, min_i64, max_i64, min_u8, max_u8, min_u16, max_u16, tn2, tn3, tn5, act0, act1, act2, and_true, true_and, Jfn_0, Jfn_1, Jfn_2, Jfn_3, Jfn_4, Jfn_5, Jfn_6, Jfn_7, Jfn_8, Jfn_9, Jfn_10, Jfn_11, Jfn_12, Jfn_13, Jfn_14, Jfn_15, Jfn_16, Jfn_17, Jfn_18, Jfn_19, Jfn_20, Jfn_21, Jfn_22, Jfn_23, Jfn_24, Jfn_25, Jfn_26, Jfn_27, Jfn_28, Jfn_29, Jfn_30, Jfn_31, Jfn_32, Jfn_33, Jfn_34, Jfn_35, Jfn_36, Jfn_37, Jfn_38, Jfn_39, Jfn_40, Jfn_43, Jfn_44, Jfn_45, Jfn_46, Jfn_47, Jfn_48, Jfn_41, Jfn_42, Jpr_0, Jpr_1, Jpr_2, Jpr_3, Jpr_4, Jpr_5, Jpr_11, Jpr_6, Jpr_7, Jpr_8, Jpr_9, Jpr_10, Jpr_12, Jpr_13, Jpr_14, Jpr_15, Jpr_16, Jpr_17, Jpr_18, Jpr_19, Jpr_22, Jpr_23, Jpr_24, Jpr_25, Jpr_26, Jpr_27, Jpr_28, Jpr_20, Jpr_21]
  intro w
  have hsm := rsmall w
  refine ⟨fun h => ?_, fun h => ?_⟩
  · have h' : ¬ Opn (exT R n) n i := fun x => h (exT_opn.1 x)
    simp [tight, err, h']
  have h := Decidable.not_not.1 h
  have hX := exT_opn.2 h
  have hl := pthL_len (R := R) hsm i
  have hp : pthL R n i = i :: path (exT R n) n (exT R n i 0) := by rw [rpath w, path_open w.toWt hX]
  refine ⟨hsm, ?_⟩
  rintro _ _ rfl rfl
  have h00 : lstT (pthL R n i) 0 0 = i := by
    obtain ⟨q, h1, h2, _⟩ := pth_get (i := i) (k := 0) (by omega) (by rw [hp]; simp)
    rw [h2]; rw [hp] at h1; simpa using h1.symm
  rw [h00]
  refine ⟨by rw [hp]; simp, by omega, ⟨?_, h⟩, ?_⟩
  · rw [rpath w]; rfl
  rintro b k h0 hk ⟨hT, hb⟩
  refine ⟨fun hlt => ?_, fun hge => ?_⟩
  · obtain ⟨q, g1, g2, g3, g4⟩ := pth_get h0 hlt
    rw [g2]
    have hd : (pthL R n i).drop k.toNat = q :: (pthL R n i).drop (k + 1).toNat := by
      rw [show (k + 1).toNat = k.toNat + 1 by omega]
      have hk' : k.toNat < (pthL R n i).length := by omega
      rw [List.drop_eq_getElem_cons hk']
      rw [List.getElem?_eq_getElem hk'] at g1
      rw [Option.some.inj g1]
    rw [hd, List.foldl_cons] at hT
    refine ⟨g4.1, g4.2.1, rown w, ex_fits w g4, hb.1, hb.2.1, ex_fits w hb, fun hlt2 => ?_, fun hge2 => ?_⟩
    · refine ⟨by omega, by omega, by omega, ⟨?_, g4⟩, by omega, by omega⟩
      rw [← hT, stepT, exT_room, exT_room, if_pos hlt2]
    · refine ⟨by omega, by omega, by omega, ⟨?_, hb⟩, by omega, by omega⟩
      rw [← hT, stepT, exT_room, exT_room, if_neg hge2]
  · rw [List.drop_eq_nil_iff.2 (by omega), List.foldl_nil] at hT
    rw [tight, if_pos hX, err_opn hX, hT]
    exact ⟨rfl, rfl⟩
theorem vRHead : ∀ ds, Sorts rHead.sorts ds → tRHead.vc (J N) ds := by
  refine all_t fun R => all_i fun n => all_i fun i => all_n ?_
  set_option linter.unusedSimpArgs false in
  simp only [tRHead, Tree.vc, PE.den, E.den, dens, BO.ev, List.getElem?_cons_zero, List.getElem?_cons_succ, List.cons_append, List.nil_append, Option.some.injEq, D.i.injEq, D.t.injEq, exists_eq_left', exists_const, forall_const, forall_eq', one_ne, one_eq, min_i64, max_i64, min_u8, max_u8, min_u16, max_u16, tn2, tn3, tn5, act0, act1, act2, and_true, true_and, Jfn_0, Jfn_1, Jfn_2, Jfn_3, Jfn_4, Jfn_5, Jfn_6, Jfn_7, Jfn_8, Jfn_9, Jfn_10, Jfn_11, Jfn_12, Jfn_13, Jfn_14, Jfn_15, Jfn_16, Jfn_17, Jfn_18, Jfn_19, Jfn_20, Jfn_21, Jfn_22, Jfn_23, Jfn_24, Jfn_25, Jfn_26, Jfn_27, Jfn_28, Jfn_29, Jfn_30, Jfn_31, Jfn_32, Jfn_33, Jfn_34, Jfn_35, Jfn_36, Jfn_37, Jfn_38, Jfn_39, Jfn_40, Jfn_43, Jfn_44, Jfn_45, Jfn_46, Jfn_47, Jfn_48, Jfn_41, Jfn_42, Jpr_0, Jpr_1, Jpr_2, Jpr_3, Jpr_4, Jpr_5, Jpr_11, Jpr_6, Jpr_7, Jpr_8, Jpr_9, Jpr_10, Jpr_12, Jpr_13, Jpr_14, Jpr_15, Jpr_16, Jpr_17, Jpr_18, Jpr_19, Jpr_22, Jpr_23, Jpr_24, Jpr_25, Jpr_26, Jpr_27, Jpr_28, Jpr_20, Jpr_21]
  intro w
  refine ⟨fun h => ?_, fun h => ?_⟩
  · have h' : ¬ Opn (exT R n) n i := fun x => h (exT_opn.1 x)
    simp [head, err, h']
  have h := Decidable.not_not.1 h
  have hX := exT_opn.2 h
  rintro _ _ rfl rfl
  have ho := exT_opn.1 (tight_opn w.toWt hX)
  refine ⟨ho.1, ho.2.1, rsmall w, rown w, ?_⟩
  refine ⟨ex_fits w ho, ?_, err_opn hX⟩
  rw [head, if_pos hX, exT_room, tight, if_pos hX]
theorem vRUsed : ∀ ds, Sorts rUsed.sorts ds → tRUsed.vc (J N) ds := by
  refine all_t fun R => all_i fun n => all_i fun i => all_n ?_
  set_option linter.unusedSimpArgs false in
  simp only [tRUsed, Tree.vc, PE.den, E.den, dens, BO.ev, List.getElem?_cons_zero, List.getElem?_cons_succ, List.cons_append, List.nil_append, Option.some.injEq, D.i.injEq, D.t.injEq, exists_eq_left', exists_const, forall_const, forall_eq', one_ne, one_eq, min_i64, max_i64, min_u8, max_u8, min_u16, max_u16, tn2, tn3, tn5, act0, act1, act2, and_true, true_and, Jfn_0, Jfn_1, Jfn_2, Jfn_3, Jfn_4, Jfn_5, Jfn_6, Jfn_7, Jfn_8, Jfn_9, Jfn_10, Jfn_11, Jfn_12, Jfn_13, Jfn_14, Jfn_15, Jfn_16, Jfn_17, Jfn_18, Jfn_19, Jfn_20, Jfn_21, Jfn_22, Jfn_23, Jfn_24, Jfn_25, Jfn_26, Jfn_27, Jfn_28, Jfn_29, Jfn_30, Jfn_31, Jfn_32, Jfn_33, Jfn_34, Jfn_35, Jfn_36, Jfn_37, Jfn_38, Jfn_39, Jfn_40, Jfn_43, Jfn_44, Jfn_45, Jfn_46, Jfn_47, Jfn_48, Jfn_41, Jfn_42, Jpr_0, Jpr_1, Jpr_2, Jpr_3, Jpr_4, Jpr_5, Jpr_11, Jpr_6, Jpr_7, Jpr_8, Jpr_9, Jpr_10, Jpr_12, Jpr_13, Jpr_14, Jpr_15, Jpr_16, Jpr_17, Jpr_18, Jpr_19, Jpr_22, Jpr_23, Jpr_24, Jpr_25, Jpr_26, Jpr_27, Jpr_28, Jpr_20, Jpr_21]
  intro w
  refine ⟨fun h => ?_, fun h => ?_⟩
  · have h' : ¬ Opn (exT R n) n i := fun x => h (exT_opn.1 x)
    simp [val, err, h']
  have h := Decidable.not_not.1 h
  rw [ex_val h (by omega), ex_val5 h, err_opn (exT_opn.2 h)]
  exact ⟨h.1, h.2.1, rsmall w, rown w, rfl, rfl, rfl⟩
theorem vRPeak : ∀ ds, Sorts rPeak.sorts ds → tRPeak.vc (J N) ds := by
  refine all_t fun R => all_i fun n => all_i fun i => all_n ?_
  set_option linter.unusedSimpArgs false in
  simp only [tRPeak, Tree.vc, PE.den, E.den, dens, BO.ev, List.getElem?_cons_zero, List.getElem?_cons_succ, List.cons_append, List.nil_append, Option.some.injEq, D.i.injEq, D.t.injEq, exists_eq_left', exists_const, forall_const, forall_eq', one_ne, one_eq, min_i64, max_i64, min_u8, max_u8, min_u16, max_u16, tn2, tn3, tn5, act0, act1, act2, and_true, true_and, Jfn_0, Jfn_1, Jfn_2, Jfn_3, Jfn_4, Jfn_5, Jfn_6, Jfn_7, Jfn_8, Jfn_9, Jfn_10, Jfn_11, Jfn_12, Jfn_13, Jfn_14, Jfn_15, Jfn_16, Jfn_17, Jfn_18, Jfn_19, Jfn_20, Jfn_21, Jfn_22, Jfn_23, Jfn_24, Jfn_25, Jfn_26, Jfn_27, Jfn_28, Jfn_29, Jfn_30, Jfn_31, Jfn_32, Jfn_33, Jfn_34, Jfn_35, Jfn_36, Jfn_37, Jfn_38, Jfn_39, Jfn_40, Jfn_43, Jfn_44, Jfn_45, Jfn_46, Jfn_47, Jfn_48, Jfn_41, Jfn_42, Jpr_0, Jpr_1, Jpr_2, Jpr_3, Jpr_4, Jpr_5, Jpr_11, Jpr_6, Jpr_7, Jpr_8, Jpr_9, Jpr_10, Jpr_12, Jpr_13, Jpr_14, Jpr_15, Jpr_16, Jpr_17, Jpr_18, Jpr_19, Jpr_22, Jpr_23, Jpr_24, Jpr_25, Jpr_26, Jpr_27, Jpr_28, Jpr_20, Jpr_21]
  intro w
  refine ⟨fun h => ?_, fun h => ?_⟩
  · have h' : ¬ Opn (exT R n) n i := fun x => h (exT_opn.1 x)
    simp [val, err, h']
  have h := Decidable.not_not.1 h
  rw [ex_val h (by omega), err_opn (exT_opn.2 h)]
  exact ⟨h.1, h.2.1, rfl, rfl⟩
end Go.Proofs.Ytafipmoglaepcaa.Ac

namespace Go.Proofs.Ytafipmoglaepcaa.Ac
open Go Go.Sx
variable {N : Nat}

theorem ref_ex (R : Tb) (n : Int) : RefOf R (exT R n) n := fun r _ _ c _ => (exT_ne R n r (by omega)).symm
theorem wf_own {T : Tb} {n : Int} (w : Wf T n) : OwnRng T n := fun r h0 h1 => by
  by_cases h : T r 4 = 0
  · have ho : Opn T n r := ⟨h0, h1, h⟩
    have := w.rng r ho
    have hl := w.own_le ho
    omega
  · have := w.cl r h0 h1 h
    omega
theorem own_sh {S T : Tb} {n : Int} (h : ∀ r, 0 ≤ r → r < n → S r 2 = T r 2) (w : Wf T n) : OwnRng S n := fun r h0 h1 => by rw [h r h0 h1]; exact wf_own w r h0 h1
theorem ch_cols {T : Tb} {n i d : Int} (h : chE T n i d = 0) : ∀ r, chT T n i d r 0 = T r 0 ∧ chT T n i d r 1 = T r 1 ∧ chT T n i d r 2 = tupd T i 2 (T i 2 + d) r 2 ∧ chT T n i d r 4 = T r 4 := by
  intro r
  rw [chT, if_pos h]
  have hs1 : Shape (tupd T i 2 (T i 2 + d)) T := tupd_shape (by omega) (by omega)
  have hs := (addP_shape (tupd T i 2 (T i 2 + d)) n i d).trans hs1
  exact ⟨(hs r).1, by rw [addP_1, tupd_ne (by omega)], addP_2 _ _ _ _ _, (hs r).2⟩
theorem vRCharge : ∀ ds, Sorts rCharge.sorts ds → tRCharge.vc (J N) ds := by
  refine all_t fun R => all_i fun n => all_i fun i => all_i fun d => all_n ?_
  set_option linter.unusedSimpArgs false in
  simp only [tRCharge, Tree.vc, PE.den, E.den, dens, BO.ev, List.getElem?_cons_zero, List.getElem?_cons_succ, List.cons_append, List.nil_append, Option.some.injEq, D.i.injEq, D.t.injEq, exists_eq_left', exists_const, forall_const, forall_eq', one_ne, one_eq, min_i64, max_i64, min_u8, max_u8, min_u16, max_u16, tn2, tn3, tn5, act0, act1, act2, and_true, true_and, Jfn_0, Jfn_1, Jfn_2, Jfn_3, Jfn_4, Jfn_5, Jfn_6, Jfn_7, Jfn_8, Jfn_9, Jfn_10, Jfn_11, Jfn_12, Jfn_13, Jfn_14, Jfn_15, Jfn_16, Jfn_17, Jfn_18, Jfn_19, Jfn_20, Jfn_21, Jfn_22, Jfn_23, Jfn_24, Jfn_25, Jfn_26, Jfn_27, Jfn_28, Jfn_29, Jfn_30, Jfn_31, Jfn_32, Jfn_33, Jfn_34, Jfn_35, Jfn_36, Jfn_37, Jfn_38, Jfn_39, Jfn_40, Jfn_43, Jfn_44, Jfn_45, Jfn_46, Jfn_47, Jfn_48, Jfn_41, Jfn_42, Jpr_0, Jpr_1, Jpr_2, Jpr_3, Jpr_4, Jpr_5, Jpr_11, Jpr_6, Jpr_7, Jpr_8, Jpr_9, Jpr_10, Jpr_12, Jpr_13, Jpr_14, Jpr_15, Jpr_16, Jpr_17, Jpr_18, Jpr_19, Jpr_22, Jpr_23, Jpr_24, Jpr_25, Jpr_26, Jpr_27, Jpr_28, Jpr_20, Jpr_21]
  intro w
  have hR := ref_ex R n
  have no : ∀ {e : Int}, e ≠ 0 → chE (exT R n) n i d = e → chE (exT R n) n i d = e ∧ RefOf R (chT (exT R n) n i d) n := fun he h => ⟨h, by rw [chT, if_neg (by omega)]; exact hR⟩
  rintro _ _ rfl rfl
  by_cases ho : Opn (exT R n) n i
  rotate_left
  · have hE : err (exT R n) n i = 4 := by simp [err, ho]
    have hC : chE (exT R n) n i d = 4 := by simp [chE, ho]
    rw [hE]
    exact ⟨fun _ => no (by omega) hC, fun y => (y (by omega)).elim⟩
  rw [err_opn ho]
  refine ⟨fun y => (y rfl).elim, fun _ => ⟨fun h0 => ⟨fun h1 => ?_, fun h1 => ⟨fun h2 => ?_, fun h2 => ?_⟩⟩, fun h0 => ?_⟩⟩
  · exact no (by omega) (by unfold chE; rw [if_neg (fun x => x ho), if_pos (.inr (by omega))])
  · exact no (by omega) (by unfold chE; rw [if_neg (fun x => x ho), if_neg (by unfold outs; omega), if_pos (by omega)])
  · have hE : chE (exT R n) n i d = 0 := by unfold chE; rw [if_neg (fun x => x ho), if_neg (by unfold outs; omega), if_neg (by omega)]
    have w' := chT_wf (i := i) (d := d) w
    have hc := ch_cols hE
    have e2 : ∀ r, tupd R i 2 (R i 2 + d) r 2 = chT (exT R n) n i d r 2 := fun r => by
      rw [(hc r).2.2.1]
      by_cases e : r = i
      · subst e; rw [tupd_same, tupd_same, exT_ne _ _ _ (by omega)]
      · rw [tupd_ne (fun x => e x.1), tupd_ne (fun x => e x.1), exT_ne _ _ _ (by omega)]
    have hown := own_sh (fun r _ _ => e2 r) w'
    have hi := hown i ho.1 ho.2.1
    rw [tupd_same] at hi
    refine ⟨ho.1, ho.2.1, by omega, rsmall w, hown, hE, ?_⟩
    refine peaks_right w w' ⟨fun r _ _ => ?_, fun r _ _ => e2 r, fun r _ _ => ?_⟩ (fun r _ _ => ?_) (fun r _ _ => ?_) (fun r _ _ => ?_) fun r hr => (chT_node w hr).peak
    · rw [(hc r).1, tupd_ne (by omega), exT_ne _ _ _ (by omega)]
    · rw [(hc r).2.2.2, tupd_ne (by omega), exT_ne _ _ _ (by omega)]
    · rw [(hc r).2.1, tupd_ne (by omega), exT_ne _ _ _ (by omega)]
    · rw [tupd_ne (by omega), exT_ne _ _ _ (by omega)]
    · rw [(hc r).2.2.2]
  · exact no (by omega) (by unfold chE; rw [if_neg (fun x => x ho), if_pos (.inl (by omega))])
theorem vRGive : ∀ ds, Sorts rGive.sorts ds → tRGive.vc (J N) ds := by
  refine all_t fun R => all_i fun n => all_i fun i => all_i fun d => all_n ?_
  set_option linter.unusedSimpArgs false in
  simp only [tRGive, Tree.vc, PE.den, E.den, dens, BO.ev, List.getElem?_cons_zero, List.getElem?_cons_succ, List.cons_append, List.nil_append, Option.some.injEq, D.i.injEq, D.t.injEq, exists_eq_left', exists_const, forall_const, forall_eq', one_ne, one_eq, min_i64, max_i64, min_u8, max_u8, min_u16, max_u16, tn2, tn3, tn5, act0, act1, act2, and_true, true_and, Jfn_0, Jfn_1, Jfn_2, Jfn_3, Jfn_4, Jfn_5, Jfn_6, Jfn_7, Jfn_8, Jfn_9, Jfn_10, Jfn_11, Jfn_12, Jfn_13, Jfn_14, Jfn_15, Jfn_16, Jfn_17, Jfn_18, Jfn_19, Jfn_20, Jfn_21, Jfn_22, Jfn_23, Jfn_24, Jfn_25, Jfn_26, Jfn_27, Jfn_28, Jfn_29, Jfn_30, Jfn_31, Jfn_32, Jfn_33, Jfn_34, Jfn_35, Jfn_36, Jfn_37, Jfn_38, Jfn_39, Jfn_40, Jfn_43, Jfn_44, Jfn_45, Jfn_46, Jfn_47, Jfn_48, Jfn_41, Jfn_42, Jpr_0, Jpr_1, Jpr_2, Jpr_3, Jpr_4, Jpr_5, Jpr_11, Jpr_6, Jpr_7, Jpr_8, Jpr_9, Jpr_10, Jpr_12, Jpr_13, Jpr_14, Jpr_15, Jpr_16, Jpr_17, Jpr_18, Jpr_19, Jpr_22, Jpr_23, Jpr_24, Jpr_25, Jpr_26, Jpr_27, Jpr_28, Jpr_20, Jpr_21]
  intro w
  have hR := ref_ex R n
  have no : ∀ {e : Int}, e ≠ 0 → giE (exT R n) n i d = e → giE (exT R n) n i d = e ∧ RefOf R (giT (exT R n) n i d) n := fun he h => ⟨h, by rw [giT, if_neg (by omega)]; exact hR⟩
  refine ⟨fun h => no (by omega) (by unfold giE; rw [if_pos (fun x => h (exT_opn.1 x))]), fun h => ?_⟩
  have h := Decidable.not_not.1 h
  have ho := exT_opn.2 h
  have x2 : exT R n i 2 = R i 2 := exT_ne _ _ _ (by omega)
  refine ⟨fun h0 => ⟨fun h1 => ?_, fun h1 => ⟨h.1, h.2.1, fun h2 => ?_, fun h2 => ?_⟩⟩, fun h0 => ?_⟩
  · exact no (by omega) (by unfold giE; rw [if_neg (fun x => x ho), if_pos (.inr (by omega))])
  · exact no (by omega) (by unfold giE; rw [if_neg (fun x => x ho), if_neg (by unfold outs; omega), if_pos (by omega)])
  · have hE : giE (exT R n) n i d = 0 := by unfold giE; rw [if_neg (fun x => x ho), if_neg (by unfold outs; omega), if_neg (by omega)]
    have hi := rown w i h.1 h.2.1
    refine ⟨by omega, hE, fun r r0 r1 c hc => ?_⟩
    rw [giT, if_pos hE]
    have hs1 : Shape (tupd (exT R n) i 2 (exT R n i 2 - d)) (exT R n) := tupd_shape (by omega) (by omega)
    have hs := (addP_shape (tupd (exT R n) i 2 (exT R n i 2 - d)) n i (0 - d)).trans hs1
    have cases5 : c = 0 ∨ c = 1 ∨ c = 2 ∨ c = 3 ∨ c = 4 := by omega
    rcases cases5 with rfl | rfl | rfl | rfl | rfl
    · rw [(hs r).1, tupd_ne (by omega), exT_ne _ _ _ (by omega)]
    · rw [addP_1, tupd_ne (by omega), tupd_ne (by omega), exT_ne _ _ _ (by omega)]
    · rw [addP_2]
      by_cases e : r = i
      · subst e; rw [tupd_same, tupd_same, x2]
      · rw [tupd_ne (fun x => e x.1), tupd_ne (fun x => e x.1), exT_ne _ _ _ (by omega)]
    · rw [addP_3, hs1.path w.toWt, tupd_ne (by omega), tupd_ne (by omega), tupd_ne (by omega), exT_ne _ _ _ (by omega)]
      by_cases hm : r ∈ path (exT R n) n i
      · rw [if_pos hm]
        have := w.rng r (mem_path w.toWt i hm).1
        have x3 : exT R n r 3 = R r 3 := exT_ne _ _ _ (by omega)
        omega
      · rw [if_neg hm]
    · rw [(hs r).2, tupd_ne (by omega), exT_ne _ _ _ (by omega)]
  · exact no (by omega) (by unfold giE; rw [if_neg (fun x => x ho), if_pos (.inl (by omega))])
theorem vRLimit : ∀ ds, Sorts rLimit.sorts ds → tRLimit.vc (J N) ds := by
  refine all_t fun R => all_i fun n => all_i fun i => all_i fun d => all_n ?_
  set_option linter.unusedSimpArgs false in
  simp only [tRLimit, Tree.vc, PE.den, E.den, dens, BO.ev, List.getElem?_cons_zero, List.getElem?_cons_succ, List.cons_append, List.nil_append, Option.some.injEq, D.i.injEq, D.t.injEq, exists_eq_left', exists_const, forall_const, forall_eq', one_ne, one_eq, min_i64, max_i64, min_u8, max_u8, min_u16, max_u16, tn2, tn3, tn5, act0, act1, act2, and_true, true_and, Jfn_0, Jfn_1, Jfn_2, Jfn_3, Jfn_4, Jfn_5, Jfn_6, Jfn_7, Jfn_8, Jfn_9, Jfn_10, Jfn_11, Jfn_12, Jfn_13, Jfn_14, Jfn_15, Jfn_16, Jfn_17, Jfn_18, Jfn_19, Jfn_20, Jfn_21, Jfn_22, Jfn_23, Jfn_24, Jfn_25, Jfn_26, Jfn_27, Jfn_28, Jfn_29, Jfn_30, Jfn_31, Jfn_32, Jfn_33, Jfn_34, Jfn_35, Jfn_36, Jfn_37, Jfn_38, Jfn_39, Jfn_40, Jfn_43, Jfn_44, Jfn_45, Jfn_46, Jfn_47, Jfn_48, Jfn_41, Jfn_42, Jpr_0, Jpr_1, Jpr_2, Jpr_3, Jpr_4, Jpr_5, Jpr_11, Jpr_6, Jpr_7, Jpr_8, Jpr_9, Jpr_10, Jpr_12, Jpr_13, Jpr_14, Jpr_15, Jpr_16, Jpr_17, Jpr_18, Jpr_19, Jpr_22, Jpr_23, Jpr_24, Jpr_25, Jpr_26, Jpr_27, Jpr_28, Jpr_20, Jpr_21]
  intro w
  have hR := ref_ex R n
  have no : ∀ {e : Int}, e ≠ 0 → slE (exT R n) n i d = e → slE (exT R n) n i d = e ∧ RefOf R (slT (exT R n) n i d) n := fun he h => ⟨h, by rw [slT, if_neg (by omega)]; exact hR⟩
  refine ⟨fun h => no (by omega) (by unfold slE; rw [if_pos (fun x => h (exT_opn.1 x))]), fun h => ?_⟩
  have h := Decidable.not_not.1 h
  have ho := exT_opn.2 h
  refine ⟨fun h0 => ⟨fun h1 => ?_, fun h1 => ?_⟩, fun h0 => ?_⟩
  · exact no (by omega) (by unfold slE; rw [if_neg (fun x => x ho), if_pos (.inr (by omega))])
  · have hE : slE (exT R n) n i d = 0 := by unfold slE; rw [if_neg (fun x => x ho), if_neg (by unfold outs; omega)]
    refine ⟨h.1, h.2.1, hE, fun r r0 r1 c hc => ?_⟩
    rw [slT, if_pos hE]
    by_cases e : r = i ∧ c = 1
    · obtain ⟨rfl, rfl⟩ := e; rw [tupd_same, tupd_same]
    · rw [tupd_ne e, tupd_ne e, exT_ne _ _ _ (by omega)]
  · exact no (by omega) (by unfold slE; rw [if_neg (fun x => x ho), if_pos (.inl (by omega))])
theorem vRMove : ∀ ds, Sorts rMove.sorts ds → tRMove.vc (J N) ds := by
  refine all_t fun R => all_i fun n => all_i fun x => all_i fun p => all_n ?_
  set_option linter.unusedSimpArgs false in
  simp only [tRMove, Tree.vc, PE.den, E.den, dens, BO.ev, List.getElem?_cons_zero, List.getElem?_cons_succ, List.cons_append, List.nil_append, Option.some.injEq, D.i.injEq, D.t.injEq, exists_eq_left', exists_const, forall_const, forall_eq', one_ne, one_eq, min_i64, max_i64, min_u8, max_u8, min_u16, max_u16, tn2, tn3, tn5, act0, act1, act2, and_true, true_and, Jfn_0, Jfn_1, Jfn_2, Jfn_3, Jfn_4, Jfn_5, Jfn_6, Jfn_7, Jfn_8, Jfn_9, Jfn_10, Jfn_11, Jfn_12, Jfn_13, Jfn_14, Jfn_15, Jfn_16, Jfn_17, Jfn_18, Jfn_19, Jfn_20, Jfn_21, Jfn_22, Jfn_23, Jfn_24, Jfn_25, Jfn_26, Jfn_27, Jfn_28, Jfn_29, Jfn_30, Jfn_31, Jfn_32, Jfn_33, Jfn_34, Jfn_35, Jfn_36, Jfn_37, Jfn_38, Jfn_39, Jfn_40, Jfn_43, Jfn_44, Jfn_45, Jfn_46, Jfn_47, Jfn_48, Jfn_41, Jfn_42, Jpr_0, Jpr_1, Jpr_2, Jpr_3, Jpr_4, Jpr_5, Jpr_11, Jpr_6, Jpr_7, Jpr_8, Jpr_9, Jpr_10, Jpr_12, Jpr_13, Jpr_14, Jpr_15, Jpr_16, Jpr_17, Jpr_18, Jpr_19, Jpr_22, Jpr_23, Jpr_24, Jpr_25, Jpr_26, Jpr_27, Jpr_28, Jpr_20, Jpr_21]
  intro w
  have hR := ref_ex R n
  have no : ∀ {e : Int}, e ≠ 0 → mvE (exT R n) n x p = e → mvE (exT R n) n x p = e ∧ RefOf R (mvT (exT R n) n x p) n := fun he h => ⟨h, by rw [mvT, if_neg (by omega)]; exact hR⟩
  refine ⟨fun h => no (by omega) (by unfold mvE; rw [if_pos (.inl (fun y => h (exT_opn.1 y)))]), fun h => ?_⟩
  have hx := Decidable.not_not.1 h
  have hX := exT_opn.2 hx
  refine ⟨fun h => no (by omega) (by unfold mvE; rw [if_pos (.inr (fun y => h (exT_opn.1 y)))]), fun h => ?_⟩
  have hp := Decidable.not_not.1 h
  have hP := exT_opn.2 hp
  have hno : ¬ (¬ Opn (exT R n) n x ∨ ¬ Opn (exT R n) n p) := fun y => by rcases y with y | y; exact y hX; exact y hP
  refine ⟨fun h0 => no (by omega) (by unfold mvE; rw [if_neg hno, if_pos h0]), fun h0 => ⟨rsmall w, ?_⟩⟩
  rintro _ _ rfl rfl
  have hsm := rsmall w
  have hl := pthL_len (R := R) hsm p
  have hl2 := pthL_len (R := R) hsm (R x 0)
  refine ⟨by omega, by omega, fun b hb => ?_⟩
  rw [lstT_mem, rpath w] at hb
  refine ⟨fun hb1 => no (by omega) (by unfold mvE; rw [if_neg hno, if_neg h0, if_pos (hb.1 hb1)]), fun hb1 => ⟨hx.1, hx.2.1, rown w, ?_⟩⟩
  have hnp : x ∉ path (exT R n) n p := fun y => hb.2 y hb1
  rintro _ _ rfl rfl _ _ rfl rfl
  have x0 : exT R n x 0 = R x 0 := exT_ne _ _ _ (by omega)
  have x5 : exT R n x 5 = allR R n x := exT_5 _ _ _
  have po : ∀ q, q ∈ pthL R n (R x 0) ↔ q ∈ path (exT R n) n (exT R n x 0) := fun q => by rw [rpath w, x0]
  refine ⟨fun q hq => by simp at hq, fun k k0 hk hnf => ⟨fun hlt => ?_, fun hge => ?_⟩⟩
  · obtain ⟨q, g1, g2, g3, g4⟩ := pth_get k0 hlt
    rw [g2]
    have hnext : ¬ (allR R n x > 0 ∧ allR R n x > R q 1 - allR R n q ∧ q ∉ pthL R n (R x 0)) → NotFull R n x p (k + 1) := fun hq r hr => by
      rw [show (k + 1).toNat = k.toNat + 1 by omega, List.take_add_one, g1] at hr
      rcases List.mem_append.1 hr with hr | hr
      · exact hnf r hr
      · simp at hr; subst hr; exact hq
    refine ⟨by omega, by omega, fun bb hbb => ?_⟩
    rw [lstT_mem] at hbb
    refine ⟨fun hb0 => ⟨fun hpos => ⟨g4.1, g4.2.1, ex_fits w g4, fun hfull => ?_, fun hroom => ?_⟩, fun hpos => ?_⟩, fun hb0 => ?_⟩
    · refine no (by omega) ?_
      have hT : tooFull (exT R n) n p (exT R n x 0) (exT R n x 5) := ⟨q, by rw [← rpath w]; exact g3, by rw [x5]; exact hpos, by rw [exT_room, x5]; exact hfull, fun y => hbb.2 ((po q).2 y) hb0⟩
      unfold mvE; rw [if_neg hno, if_neg h0, if_neg hnp, if_pos hT]
    · exact ⟨by omega, by omega, by omega, hnext (fun y => hroom y.2.1), by omega, by omega⟩
    · exact ⟨by omega, by omega, by omega, hnext (fun y => hpos y.1), by omega, by omega⟩
    · exact ⟨by omega, by omega, by omega, hnext (fun y => y.2.2 (hbb.1 hb0)), by omega, by omega⟩
  · have hnT : ¬ tooFull (exT R n) n p (exT R n x 0) (exT R n x 5) := by
      rintro ⟨q, q1, q2, q3, q4⟩
      rw [← rpath w] at q1
      rw [x5] at q2 q3
      rw [exT_room] at q3
      refine hnf q ?_ ⟨q2, q3, fun y => q4 ((po q).1 y)⟩
      rw [List.take_of_length_le (by omega)]; exact q1
    have hE : mvE (exT R n) n x p = 0 := by unfold mvE; rw [if_neg hno, if_neg h0, if_neg hnp, if_neg hnT]
    have w' := mvT_wf (x := x) (p := p) w
    have hc := mv_cols w hE
    have e2 : ∀ r, tupd R x 0 p r 2 = mvT (exT R n) n x p r 2 := fun r => by rw [(hc r).2.2.2.1, tupd_ne (by omega), exT_ne _ _ _ (by omega)]
    refine ⟨rsmall w, own_sh (fun r _ _ => e2 r) w', hE, ?_⟩
    refine peaks_right w w' ⟨fun r _ _ => ?_, fun r _ _ => e2 r, fun r _ _ => ?_⟩ (fun r _ _ => ?_) (fun r _ _ => ?_) (fun r _ _ => ?_) fun r hr => (mvT_node w hr).peak
    · rw [(hc r).2.1]
      by_cases e : r = x
      · subst e; rw [tupd_same, if_pos rfl]
      · rw [tupd_ne (fun y => e y.1), if_neg e, exT_ne _ _ _ (by omega)]
    · rw [(hc r).2.2.2.2, tupd_ne (by omega), exT_ne _ _ _ (by omega)]
    · rw [(hc r).2.2.1, tupd_ne (by omega), exT_ne _ _ _ (by omega)]
    · rw [tupd_ne (by omega), exT_ne _ _ _ (by omega)]
    · rw [(hc r).2.2.2.2]

theorem row5_off {T : Tb} {i a b c d e r : Int} (h : r ≠ i) (k : Nat) : tupd (tupd (tupd (tupd (tupd T i 0 a) i 1 b) i 2 c) i 3 d) i 4 e r k = T r k := by
  repeat rw [tupd_ne (fun x => h x.1)]
theorem row5_row6 {R X : Tb} {i a b c d e f r : Int} {k : Nat} (hk : k < 5) (h : r ≠ i → R r k = X r k) : tupd (tupd (tupd (tupd (tupd R i 0 a) i 1 b) i 2 c) i 3 d) i 4 e r k = row6 X i a b c d e f r k := by
  by_cases hr : r = i
  · subst hr
    obtain ⟨e0, e1, e2, e3, e4, _⟩ := row6_on X r a b c d e f
    have cases5 : k = 0 ∨ k = 1 ∨ k = 2 ∨ k = 3 ∨ k = 4 := by omega
    rcases cases5 with rfl | rfl | rfl | rfl | rfl
    · rw [e0]; simp [tupd]
    · rw [e1]; simp [tupd]
    · rw [e2]; simp [tupd]
    · rw [e3]; simp [tupd]
    · rw [e4]; simp [tupd]
  · rw [row5_off hr, row6_off hr, h hr]
theorem fc_at {T : Tb} {n k : Int} (h0 : 0 ≤ k) (ha : ∀ j, 0 ≤ j → j < k → T j 4 = 0) : (k < n → T k 4 ≠ 0 → fc T n 0 = k) ∧ (k = n → fc T n 0 < 0) := by
  rcases fc_spec (T := T) (n := n) with ⟨a, b⟩ | ⟨a, b, c, d⟩
  · exact ⟨fun h1 h2 => (h2 (b k h0 h1)).elim, fun _ => a⟩
  · refine ⟨fun h1 h2 => ?_, fun h1 => ?_⟩
    · rcases Int.lt_trichotomy (fc T n 0) k with x | x | x
      · exact (c (ha _ a x)).elim
      · exact x
      · exact (h2 (d k h0 x)).elim
    · exact (c (ha _ a (by omega))).elim
theorem vRChild : ∀ ds, Sorts rChild.sorts ds → tRChild.vc (J N) ds := by
  refine all_t fun R => all_i fun n => all_i fun p => all_i fun l => all_n ?_
  set_option linter.unusedSimpArgs false in
  simp only [tRChild, Tree.vc, PE.den, E.den, dens, BO.ev, List.getElem?_cons_zero, List.getElem?_cons_succ, List.cons_append, List.nil_append, Option.some.injEq, D.i.injEq, D.t.injEq, exists_eq_left', exists_const, forall_const, forall_eq', one_ne, one_eq, min_i64, max_i64, min_u8, max_u8, min_u16, max_u16, tn2, tn3, tn5, act0, act1, act2, and_true, true_and, Jfn_0, Jfn_1, Jfn_2, Jfn_3, Jfn_4, Jfn_5, Jfn_6, Jfn_7, Jfn_8, Jfn_9, Jfn_10, Jfn_11, Jfn_12, Jfn_13, Jfn_14, Jfn_15, Jfn_16, Jfn_17, Jfn_18, Jfn_19, Jfn_20, Jfn_21, Jfn_22, Jfn_23, Jfn_24, Jfn_25, Jfn_26, Jfn_27, Jfn_28, Jfn_29, Jfn_30, Jfn_31, Jfn_32, Jfn_33, Jfn_34, Jfn_35, Jfn_36, Jfn_37, Jfn_38, Jfn_39, Jfn_40, Jfn_43, Jfn_44, Jfn_45, Jfn_46, Jfn_47, Jfn_48, Jfn_41, Jfn_42, Jpr_0, Jpr_1, Jpr_2, Jpr_3, Jpr_4, Jpr_5, Jpr_11, Jpr_6, Jpr_7, Jpr_8, Jpr_9, Jpr_10, Jpr_12, Jpr_13, Jpr_14, Jpr_15, Jpr_16, Jpr_17, Jpr_18, Jpr_19, Jpr_22, Jpr_23, Jpr_24, Jpr_25, Jpr_26, Jpr_27, Jpr_28, Jpr_20, Jpr_21]
  intro w
  have hR := ref_ex R n
  have no : ∀ {e : Int}, e ≠ 0 → cdE (exT R n) n p l = e → cdN (exT R n) n p l = n ∧ cdR (exT R n) n p l = 0 ∧ cdE (exT R n) n p l = e ∧ RefOf R (cdT (exT R n) n p l) n := fun he h =>
    ⟨by rw [cdN, if_neg (fun x => by omega)], by rw [cdR, if_neg (by omega)], h, by rw [cdT, if_neg (by omega)]; exact hR⟩
  have hn := w.n1
  have hn2 := w.n64
  refine ⟨fun h => no (by omega) (by unfold cdE; rw [if_pos (fun x => h (exT_opn.1 x))]), fun h => ?_⟩
  have h := Decidable.not_not.1 h
  have ho := exT_opn.2 h
  refine ⟨fun h0 => ⟨fun h1 => no (by omega) (by unfold cdE; rw [if_neg (fun x => x ho), if_pos (.inr (by omega))]), fun h1 => ⟨by omega, fun j a b => by omega, fun k k0 hk hall => ?_⟩⟩, fun h0 => no (by omega) (by unfold cdE; rw [if_neg (fun x => x ho), if_pos (.inl (by omega))])⟩
  have hout : ¬ outs l := by unfold outs; omega
  have hfc := fc_at (T := exT R n) (n := n) k0 (fun j a b => by rw [exT_ne _ _ _ (by omega)]; exact hall j a b)
  have full : k = n → n = 64 → cdE (exT R n) n p l = 5 := fun e1 e2 => by
    unfold cdE; rw [if_neg (fun x => x ho), if_neg hout, if_pos ⟨hfc.2 e1, e2⟩]
  have fine : ¬ (fc (exT R n) n 0 < 0 ∧ n = 64) → cdE (exT R n) n p l = 0 := fun e => by
    unfold cdE; rw [if_neg (fun x => x ho), if_neg hout, if_neg e]
  -- a closed row is taken
  have old : k < n → R k 4 ≠ 0 → cdN (exT R n) n p l = n ∧ cdR (exT R n) n p l = k ∧ cdE (exT R n) n p l = 0 ∧ RefOf (tupd (tupd (tupd (tupd (tupd R k 0 p) k 1 l) k 2 0) k 3 0) k 4 0) (cdT (exT R n) n p l) n := fun hlt h4 => by
    have hf := hfc.1 hlt (by rw [exT_ne _ _ _ (by omega)]; exact h4)
    have hE := fine (fun x => by omega)
    have hN : fcN (exT R n) n = k := by unfold fcN; rw [if_neg (by omega)]; exact hf
    refine ⟨by rw [cdN, if_neg (fun x => by omega)], by rw [cdR, if_pos hE]; exact hN, hE, fun r r0 r1 c hc => ?_⟩
    rw [cdT, if_pos hE, hN]
    exact row5_row6 hc fun _ => (exT_ne R n r (by omega)).symm
  -- a row is appended
  have new : k = n → n ≠ 64 → cdN (exT R n) n p l = n + 1 ∧ cdR (exT R n) n p l = k ∧ cdE (exT R n) n p l = 0 ∧ RefOf (tupd (tupd (tupd (tupd (tupd (tupd (tupd (tupd (tupd (tupd R n 0 0) n 1 0) n 2 0) n 3 0) n 4 0) k 0 p) k 1 l) k 2 0) k 3 0) k 4 0) (cdT (exT R n) n p l) (n + 1) := fun he hne => by
    have hf := hfc.2 he
    have hE := fine (fun x => hne x.2)
    have hN : fcN (exT R n) n = n := by unfold fcN; rw [if_pos hf]
    refine ⟨by rw [cdN, if_pos ⟨hE, hf⟩], by rw [cdR, if_pos hE, hN, he], hE, fun r r0 r1 c hc => ?_⟩
    rw [cdT, if_pos hE, hN, he]
    refine row5_row6 hc fun hr => ?_
    rw [row5_off hr]; exact (exT_ne R n r (by omega)).symm
  refine ⟨fun hlt => ⟨fun hk4 => ?_, fun hk4 => ⟨fun e => by omega, fun _ => ⟨fun e => by omega, fun _ => ?_⟩⟩⟩, fun hge => ⟨fun e => no (by omega) (full (by omega) (by omega)), fun e => ⟨fun e2 => ?_, fun e2 => by omega⟩⟩⟩
  · refine ⟨by omega, by omega, by omega, fun j a b => ?_, by omega, by omega⟩
    by_cases e : j = k
    · rw [e]; exact hk4.2.2
    · exact hall j a (by omega)
  · exact old hlt (fun x => hk4 ⟨k0, hlt, x⟩)
  · exact ⟨by omega, by omega, new e2 (by omega)⟩
theorem trimF_congr {S T : Tb} : ∀ m : Nat, (∀ r : Nat, r < m → S r 4 = T r 4) → trimF S m = trimF T m
  | 0, _ => rfl
  | m + 1, h => by
    simp only [trimF]
    rw [h m (by omega), trimF_congr m fun r hr => h r (by omega)]
theorem vRClose : ∀ ds, Sorts rClose.sorts ds → tRClose.vc (J N) ds := by
  refine all_t fun R => all_i fun n => all_i fun i => all_n ?_
  set_option linter.unusedSimpArgs false in
  simp only [tRClose, Tree.vc, PE.den, E.den, dens, BO.ev, List.getElem?_cons_zero, List.getElem?_cons_succ, List.cons_append, List.nil_append, Option.some.injEq, D.i.injEq, D.t.injEq, exists_eq_left', exists_const, forall_const, forall_eq', one_ne, one_eq, min_i64, max_i64, min_u8, max_u8, min_u16, max_u16, tn2, tn3, tn5, act0, act1, act2, and_true, true_and, Jfn_0, Jfn_1, Jfn_2, Jfn_3, Jfn_4, Jfn_5, Jfn_6, Jfn_7, Jfn_8, Jfn_9, Jfn_10, Jfn_11, Jfn_12, Jfn_13, Jfn_14, Jfn_15, Jfn_16, Jfn_17, Jfn_18, Jfn_19, Jfn_20, Jfn_21, Jfn_22, Jfn_23, Jfn_24, Jfn_25, Jfn_26, Jfn_27, Jfn_28, Jfn_29, Jfn_30, Jfn_31, Jfn_32, Jfn_33, Jfn_34, Jfn_35, Jfn_36, Jfn_37, Jfn_38, Jfn_39, Jfn_40, Jfn_43, Jfn_44, Jfn_45, Jfn_46, Jfn_47, Jfn_48, Jfn_41, Jfn_42, Jpr_0, Jpr_1, Jpr_2, Jpr_3, Jpr_4, Jpr_5, Jpr_11, Jpr_6, Jpr_7, Jpr_8, Jpr_9, Jpr_10, Jpr_12, Jpr_13, Jpr_14, Jpr_15, Jpr_16, Jpr_17, Jpr_18, Jpr_19, Jpr_22, Jpr_23, Jpr_24, Jpr_25, Jpr_26, Jpr_27, Jpr_28, Jpr_20, Jpr_21]
  intro w
  have hR := ref_ex R n
  have no : ∀ {e : Int}, e ≠ 0 → clE (exT R n) n i = e → clN (exT R n) n i = n ∧ clE (exT R n) n i = e ∧ RefOf R (clT (exT R n) n i) n := fun he h =>
    ⟨by rw [clN, if_neg (by omega)], h, by rw [clT, if_neg (by omega)]; exact hR⟩
  have hn := w.n1
  have hn2 := w.n64
  refine ⟨fun h => no (by omega) (by unfold clE; rw [if_pos (fun x => h (exT_opn.1 x))]), fun h => ?_⟩
  have h := Decidable.not_not.1 h
  have ho := exT_opn.2 h
  refine ⟨fun h0 => no (by omega) (by unfold clE; rw [if_neg (fun x => x ho), if_pos h0]), fun h0 => ⟨by omega, fun j a b => by omega, fun k k0 hk hno => ⟨fun hlt => ?_, fun hge => ?_⟩⟩⟩
  · have next : ¬ (Opn R n k ∧ R k 0 = i) → NoKid R n i (k + 1) := fun hc j a b => by
      by_cases e : j = k
      · rw [e]; exact hc
      · exact hno j a (by omega)
    refine ⟨fun hk4 => ⟨fun hki => ?_, fun hki => ?_⟩, fun hk4 => ?_⟩
    · have hkid : hasKid (exT R n) n i := by
        refine ⟨k, exT_opn.2 hk4, ?_, by rw [exT_ne _ _ _ (by omega)]; exact hki⟩
        by_cases e : k = 0
        · have := w.rootp
          rw [exT_ne _ _ _ (by omega)] at this
          rw [e, this] at hki
          have := h.1; omega
        · omega
      exact no (by omega) (by unfold clE; rw [if_neg (fun x => x ho), if_neg h0, if_pos (.inl hkid)])
    · exact ⟨by omega, by omega, by omega, next (fun y => hki y.2), by omega, by omega⟩
    · exact ⟨by omega, by omega, by omega, next (fun y => hk4 y.1), by omega, by omega⟩
  · have hnk : ¬ hasKid (exT R n) n i := by
      rintro ⟨j, j1, j2, j3⟩
      rw [exT_ne _ _ _ (by omega)] at j3
      have := j1.2.1
      exact hno j (by omega) (by omega) ⟨exT_opn.1 j1, j3⟩
    have x2 : exT R n i 2 = R i 2 := exT_ne _ _ _ (by omega)
    refine ⟨h.1, h.2.1, fun h2 => no (by omega) (by unfold clE; rw [if_neg (fun x => x ho), if_neg h0, if_pos (.inr (by rw [x2]; exact h2))]), fun h2 => ⟨hn, Int.le_refl _, fun m hm1 hm2 e => ?_⟩⟩
    have h2 := Decidable.not_not.1 h2
    have hE : clE (exT R n) n i = 0 := by
      unfold clE
      rw [if_neg (fun x => x ho), if_neg h0, if_neg (fun x => by rcases x with x | x; exact hnk x; exact x (by rw [x2]; exact h2))]
    generalize hS : tupd (tupd (tupd (tupd (tupd R i 0 (-1)) i 1 0) i 2 0) i 3 0) i 4 1 = S at *
    have hst := trim_step (T := S) hm1
    have s4 : ∀ r, S r 4 = row6 (exT R n) i (-1) 0 0 0 1 0 r 4 := fun r => by rw [← hS]; exact row5_row6 (by omega) fun _ => (exT_ne R n r (by omega)).symm
    refine ⟨by omega, by omega, by omega, by omega, fun hc => ⟨by omega, ?_, by omega, ?_⟩, fun hc => ⟨by omega, ?_, hE, ?_⟩⟩
    · by_cases hm : m = 1
      · subst hm
        rw [show (1 : Int) - 1 = 0 by omega, ← hS, row5_off (fun x => h0 x.symm)] at hc
        have := w.root
        rw [exT_ne _ _ _ (by omega)] at this
        exact (hc this).elim
      · omega
    · rw [if_pos hc] at hst
      exact e.trans hst
    · rw [if_neg (fun x => x hc)] at hst
      rw [clN, if_pos hE]
      have : trimN (row6 (exT R n) i (-1) 0 0 0 1 0) n = trimN S n := trimF_congr _ fun r _ => (s4 r).symm
      rw [this]
      exact e.trans hst
    · intro r r0 r1 c hc
      rw [clT, if_pos hE, ← hS]
      exact row5_row6 hc fun _ => (exT_ne R n r (by omega)).symm
theorem vROver : ∀ ds, Sorts rOver.sorts ds → tROver.vc (J N) ds := by
  refine all_t fun R => all_i fun n => all_n ?_
  set_option linter.unusedSimpArgs false in
  simp only [tROver, Tree.vc, PE.den, E.den, dens, BO.ev, List.getElem?_cons_zero, List.getElem?_cons_succ, List.cons_append, List.nil_append, Option.some.injEq, D.i.injEq, D.t.injEq, exists_eq_left', exists_const, forall_const, forall_eq', one_ne, one_eq, min_i64, max_i64, min_u8, max_u8, min_u16, max_u16, tn2, tn3, tn5, act0, act1, act2, and_true, true_and, Jfn_0, Jfn_1, Jfn_2, Jfn_3, Jfn_4, Jfn_5, Jfn_6, Jfn_7, Jfn_8, Jfn_9, Jfn_10, Jfn_11, Jfn_12, Jfn_13, Jfn_14, Jfn_15, Jfn_16, Jfn_17, Jfn_18, Jfn_19, Jfn_20, Jfn_21, Jfn_22, Jfn_23, Jfn_24, Jfn_25, Jfn_26, Jfn_27, Jfn_28, Jfn_29, Jfn_30, Jfn_31, Jfn_32, Jfn_33, Jfn_34, Jfn_35, Jfn_36, Jfn_37, Jfn_38, Jfn_39, Jfn_40, Jfn_43, Jfn_44, Jfn_45, Jfn_46, Jfn_47, Jfn_48, Jfn_41, Jfn_42, Jpr_0, Jpr_1, Jpr_2, Jpr_3, Jpr_4, Jpr_5, Jpr_11, Jpr_6, Jpr_7, Jpr_8, Jpr_9, Jpr_10, Jpr_12, Jpr_13, Jpr_14, Jpr_15, Jpr_16, Jpr_17, Jpr_18, Jpr_19, Jpr_22, Jpr_23, Jpr_24, Jpr_25, Jpr_26, Jpr_27, Jpr_28, Jpr_20, Jpr_21]
  intro w
  have hn := w.n1
  have hn2 := w.n64
  refine ⟨by omega, lstT_nil, rfl, ?_⟩
  rintro S m k h0 hk rfl rfl
  have hl := ovL_len (exT R n) n k.toNat
  refine ⟨fun hlt => ?_, fun hge => ?_⟩
  · have e : (k + 1).toNat = k.toNat + 1 := by omega
    have ek : ((k.toNat : Nat) : Int) = k := by omega
    have step : ovL (exT R n) n (k + 1).toNat = if Opn (exT R n) n k ∧ room (exT R n) k < 0 then ovL (exT R n) n k.toNat ++ [k] else ovL (exT R n) n k.toNat := by
      rw [e]; simp only [ovL, ek]
    refine ⟨fun ho => ⟨rsmall w, rown w, ex_fits w ho, fun hr => ?_, fun hr => ?_⟩, fun ho => ?_⟩
    · have s : ovL (exT R n) n (k + 1).toNat = ovL (exT R n) n k.toNat ++ [k] := by rw [step, if_pos ⟨exT_opn.2 ho, by rw [exT_room]; exact hr⟩]
      refine ⟨by omega, by omega, by omega, by omega, ?_, ?_, by omega, by omega⟩
      · rw [s, lstT_next]
      · rw [s]; simp
    · have s : ovL (exT R n) n (k + 1).toNat = ovL (exT R n) n k.toNat := by rw [step, if_neg (fun x => hr (by have := x.2; rw [exT_room] at this; exact this))]
      exact ⟨by omega, by omega, by omega, by rw [s], by rw [s], by omega, by omega⟩
    · have s : ovL (exT R n) n (k + 1).toNat = ovL (exT R n) n k.toNat := by rw [step, if_neg (fun x => ho (exT_opn.1 x.1))]
      exact ⟨by omega, by omega, by omega, by rw [s], by rw [s], by omega, by omega⟩
  · have : k = n := by omega
    subst this
    exact ⟨rfl, rfl⟩
theorem vRSave : ∀ ds, Sorts rSave.sorts ds → tRSave.vc (J N) ds := by
  refine all_t fun R => all_i fun n => all_n ?_
  set_option linter.unusedSimpArgs false in
  simp only [tRSave, Tree.vc, PE.den, E.den, dens, BO.ev, List.getElem?_cons_zero, List.getElem?_cons_succ, List.cons_append, List.nil_append, Option.some.injEq, D.i.injEq, D.t.injEq, exists_eq_left', exists_const, forall_const, forall_eq', one_ne, one_eq, min_i64, max_i64, min_u8, max_u8, min_u16, max_u16, tn2, tn3, tn5, act0, act1, act2, and_true, true_and, Jfn_0, Jfn_1, Jfn_2, Jfn_3, Jfn_4, Jfn_5, Jfn_6, Jfn_7, Jfn_8, Jfn_9, Jfn_10, Jfn_11, Jfn_12, Jfn_13, Jfn_14, Jfn_15, Jfn_16, Jfn_17, Jfn_18, Jfn_19, Jfn_20, Jfn_21, Jfn_22, Jfn_23, Jfn_24, Jfn_25, Jfn_26, Jfn_27, Jfn_28, Jfn_29, Jfn_30, Jfn_31, Jfn_32, Jfn_33, Jfn_34, Jfn_35, Jfn_36, Jfn_37, Jfn_38, Jfn_39, Jfn_40, Jfn_43, Jfn_44, Jfn_45, Jfn_46, Jfn_47, Jfn_48, Jfn_41, Jfn_42, Jpr_0, Jpr_1, Jpr_2, Jpr_3, Jpr_4, Jpr_5, Jpr_11, Jpr_6, Jpr_7, Jpr_8, Jpr_9, Jpr_10, Jpr_12, Jpr_13, Jpr_14, Jpr_15, Jpr_16, Jpr_17, Jpr_18, Jpr_19, Jpr_22, Jpr_23, Jpr_24, Jpr_25, Jpr_26, Jpr_27, Jpr_28, Jpr_20, Jpr_21]
  intro w
  have := w.n64
  omega
theorem vRNew : ∀ ds, Sorts rNew.sorts ds → tRNew.vc (J N) ds := by
  refine all_i fun l => all_n ?_
  set_option linter.unusedSimpArgs false in
  simp only [tRNew, Tree.vc, PE.den, E.den, dens, BO.ev, List.getElem?_cons_zero, List.getElem?_cons_succ, List.cons_append, List.nil_append, Option.some.injEq, D.i.injEq, D.t.injEq, exists_eq_left', exists_const, forall_const, forall_eq', one_ne, one_eq, min_i64, max_i64, min_u8, max_u8, min_u16, max_u16, tn2, tn3, tn5, act0, act1, act2, and_true, true_and, Jfn_0, Jfn_1, Jfn_2, Jfn_3, Jfn_4, Jfn_5, Jfn_6, Jfn_7, Jfn_8, Jfn_9, Jfn_10, Jfn_11, Jfn_12, Jfn_13, Jfn_14, Jfn_15, Jfn_16, Jfn_17, Jfn_18, Jfn_19, Jfn_20, Jfn_21, Jfn_22, Jfn_23, Jfn_24, Jfn_25, Jfn_26, Jfn_27, Jfn_28, Jfn_29, Jfn_30, Jfn_31, Jfn_32, Jfn_33, Jfn_34, Jfn_35, Jfn_36, Jfn_37, Jfn_38, Jfn_39, Jfn_40, Jfn_43, Jfn_44, Jfn_45, Jfn_46, Jfn_47, Jfn_48, Jfn_41, Jfn_42, Jpr_0, Jpr_1, Jpr_2, Jpr_3, Jpr_4, Jpr_5, Jpr_11, Jpr_6, Jpr_7, Jpr_8, Jpr_9, Jpr_10, Jpr_12, Jpr_13, Jpr_14, Jpr_15, Jpr_16, Jpr_17, Jpr_18, Jpr_19, Jpr_22, Jpr_23, Jpr_24, Jpr_25, Jpr_26, Jpr_27, Jpr_28, Jpr_20, Jpr_21]
  intro _ _ r r0 r1 c hc
  have : r = 0 := by omega
  subst this
  exact row5_row6 (X := fun _ _ => 0) hc fun h => (h rfl).elim
end Go.Proofs.Ytafipmoglaepcaa.Ac
