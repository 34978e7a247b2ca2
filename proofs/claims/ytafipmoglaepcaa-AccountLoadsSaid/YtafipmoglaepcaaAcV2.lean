/-
  The conditions of the calls of budgets hold. Conditions: none.
-/
import Derived.Test.YtafipmoglaepcaaAcV1
namespace Go.Proofs.Ytafipmoglaepcaa.Ac
open Go Go.Sx
variable {N : Nat}

theorem own_fits {T : Tb} {n i d : Int} (w : Wf T n) (hd : -4096 ≤ d ∧ d ≤ 4096) (h2 : Int) : AddFits (tupd T i 2 h2) n i d := by
  intro r hr
  have hs : Shape (tupd T i 2 h2) T := tupd_shape (by omega) (by omega)
  rw [hs.path w.toWt] at hr
  have := w.rng r (mem_path w.toWt i hr).1
  rw [tupd_ne (by omega)]
  omega
theorem vCharge : ∀ ds, Sorts cCharge.sorts ds → tCharge.vc (J N) ds := by
  refine all_t fun T => all_i fun n => all_i fun i => all_i fun d => all_n ?_
  set_option linter.unusedSimpArgs false in
  simp only [tCharge, Tree.vc, PE.den, E.den, dens, BO.ev, List.getElem?_cons_zero, List.getElem?_cons_succ, List.cons_append, List.nil_append, Option.some.injEq, D.i.injEq, D.t.injEq, exists_eq_left', exists_const, forall_const, forall_eq', one_ne, one_eq, min_i64, max_i64, min_u8, max_u8, min_u16, max_u16, tn2, tn3, tn5, and_true, true_and, Jfn_0, Jfn_1, Jfn_2, Jfn_3, Jfn_4, Jfn_5, Jfn_6, Jfn_7, Jfn_8, Jfn_9, Jfn_10, Jfn_11, Jfn_12, Jfn_13, Jfn_14, Jfn_15, Jfn_16, Jfn_17, Jfn_18, Jfn_19, Jfn_20, Jfn_21, Jfn_22, Jfn_23, Jfn_24, Jfn_25, Jfn_26, Jfn_27, Jfn_28, Jfn_29, Jfn_30, Jfn_31, Jfn_32, Jfn_33, Jfn_34, Jfn_35, Jfn_36, Jfn_37, Jfn_38, Jfn_39, Jpr_0, Jpr_1, Jpr_2, Jpr_3, Jpr_4, Jpr_5, Jpr_6, Jpr_7, Jpr_8, Jpr_9, Jpr_10, Jpr_20, Jpr_21]
  rintro w _ _ rfl rfl
  by_cases h : Opn T n i
  · have he : err T n i = 0 := by simp [err, h]
    refine ⟨fun e => (e he).elim, fun _ => ⟨fun h0 => ?_, fun h0 => ⟨fun h1 => ?_, fun h1 => ⟨fun h2 => ?_, fun h2 => ?_⟩⟩⟩⟩
    · simp [chT, chE, outs, h, h0]
    · have : outs d := .inr (by omega)
      simp [chT, chE, h, this]
    · have : ¬ outs d := by unfold outs; omega
      simp [chT, chE, h, this, h2]
    · have ho : ¬ outs d := by unfold outs; omega
      have hr := w.rng i h
      have hl := w.own_le h
      have hE : chE T n i d = 0 := by simp only [chE, h, ho, not_true, if_false]; rw [if_neg (by omega)]
      refine ⟨h.1, h.2.1, by omega, (tupd_shape (by omega) (by omega)).wt w.toWt, own_fits w (by omega) _, ?_, hE⟩
      rw [chT, if_pos hE]
  · have he : ¬ err T n i = 0 := by simp [err, h]
    refine ⟨fun _ => ?_, fun e => (e he).elim⟩
    simp [chT, chE, err, h]
theorem vGive : ∀ ds, Sorts cGive.sorts ds → tGive.vc (J N) ds := by
  refine all_t fun T => all_i fun n => all_i fun i => all_i fun d => all_n ?_
  set_option linter.unusedSimpArgs false in
  simp only [tGive, Tree.vc, PE.den, E.den, dens, BO.ev, List.getElem?_cons_zero, List.getElem?_cons_succ, List.cons_append, List.nil_append, Option.some.injEq, D.i.injEq, D.t.injEq, exists_eq_left', exists_const, forall_const, forall_eq', one_ne, one_eq, min_i64, max_i64, min_u8, max_u8, min_u16, max_u16, tn2, tn3, tn5, and_true, true_and, Jfn_0, Jfn_1, Jfn_2, Jfn_3, Jfn_4, Jfn_5, Jfn_6, Jfn_7, Jfn_8, Jfn_9, Jfn_10, Jfn_11, Jfn_12, Jfn_13, Jfn_14, Jfn_15, Jfn_16, Jfn_17, Jfn_18, Jfn_19, Jfn_20, Jfn_21, Jfn_22, Jfn_23, Jfn_24, Jfn_25, Jfn_26, Jfn_27, Jfn_28, Jfn_29, Jfn_30, Jfn_31, Jfn_32, Jfn_33, Jfn_34, Jfn_35, Jfn_36, Jfn_37, Jfn_38, Jfn_39, Jpr_0, Jpr_1, Jpr_2, Jpr_3, Jpr_4, Jpr_5, Jpr_6, Jpr_7, Jpr_8, Jpr_9, Jpr_10, Jpr_20, Jpr_21]
  intro w
  by_cases h : Opn T n i
  · refine ⟨fun e => (e h).elim, fun _ => ⟨fun h0 => ?_, fun h0 => ⟨fun h1 => ?_, fun h1 => ⟨h.1, h.2.1, fun h2 => ?_, fun h2 => ?_⟩⟩⟩⟩
    · simp [giT, giE, outs, h, h0]
    · have : outs d := .inr (by omega)
      simp [giT, giE, h, this]
    · have : ¬ outs d := by unfold outs; omega
      simp [giT, giE, h, this, h2]
    · have ho : ¬ outs d := by unfold outs; omega
      have hr := w.rng i h
      have hl := w.own_le h
      have hE : giE T n i d = 0 := by simp only [giE, h, ho, not_true, if_false]; rw [if_neg (by omega)]
      refine ⟨by omega, by omega, (tupd_shape (by omega) (by omega)).wt w.toWt, own_fits w (by omega) _, ?_, hE⟩
      rw [giT, if_pos hE]
  · refine ⟨fun _ => ?_, fun e => (e h).elim⟩
    simp [giT, giE, h]
theorem row6_twice (T : Tb) (i a b c d e f a' b' c' d' e' f' : Int) : row6 (row6 T i a' b' c' d' e' f') i a b c d e f = row6 T i a b c d e f := by
  funext r k
  simp only [row6, tupd]
  by_cases h : r = i
  · subst h
    by_cases h5 : k = 5 <;> by_cases h4 : k = 4 <;> by_cases h3 : k = 3 <;> by_cases h2 : k = 2 <;> by_cases h1 : k = 1 <;> by_cases h0 : k = 0 <;> simp [*]
  · simp [h]
theorem vChild : ∀ ds, Sorts cChild.sorts ds → tChild.vc (J N) ds := by
  refine all_t fun T => all_i fun n => all_i fun p => all_i fun l => all_n ?_
  set_option linter.unusedSimpArgs false in
  simp only [tChild, Tree.vc, PE.den, E.den, dens, BO.ev, List.getElem?_cons_zero, List.getElem?_cons_succ, List.cons_append, List.nil_append, Option.some.injEq, D.i.injEq, D.t.injEq, exists_eq_left', exists_const, forall_const, forall_eq', one_ne, one_eq, min_i64, max_i64, min_u8, max_u8, min_u16, max_u16, tn2, tn3, tn5, and_true, true_and, Jfn_0, Jfn_1, Jfn_2, Jfn_3, Jfn_4, Jfn_5, Jfn_6, Jfn_7, Jfn_8, Jfn_9, Jfn_10, Jfn_11, Jfn_12, Jfn_13, Jfn_14, Jfn_15, Jfn_16, Jfn_17, Jfn_18, Jfn_19, Jfn_20, Jfn_21, Jfn_22, Jfn_23, Jfn_24, Jfn_25, Jfn_26, Jfn_27, Jfn_28, Jfn_29, Jfn_30, Jfn_31, Jfn_32, Jfn_33, Jfn_34, Jfn_35, Jfn_36, Jfn_37, Jfn_38, Jfn_39, Jpr_0, Jpr_1, Jpr_2, Jpr_3, Jpr_4, Jpr_5, Jpr_6, Jpr_7, Jpr_8, Jpr_9, Jpr_10, Jpr_20, Jpr_21]
  intro w
  by_cases h : Opn T n p
  · refine ⟨fun e => (e h).elim, fun _ => ⟨fun h0 => ?_, fun h0 => ⟨fun h1 => ?_, fun h1 => ⟨fun h2 => ?_, fun h2 => ⟨fun h3 => ?_, fun h3 => ?_⟩⟩⟩⟩⟩
    · simp [cdT, cdN, cdR, cdE, outs, h, h0]
    · have : outs l := .inr (by omega)
      simp [cdT, cdN, cdR, cdE, h, this]
    · have ho : ¬ outs l := by unfold outs; omega
      rcases fc_spec (T := T) (n := n) with ⟨a, _⟩ | ⟨a, b, c, _⟩
      · omega
      · have hE : cdE T n p l = 0 := by simp only [cdE, h, ho, not_true, if_false]; rw [if_neg (by omega)]
        have hf : fcN T n = fc T n 0 := by unfold fcN; rw [if_neg (by omega)]
        refine ⟨b, ?_, ?_, ?_, hE⟩
        · rw [cdT, if_pos hE, hf]; rfl
        · rw [cdN, if_neg (by omega)]
        · rw [cdR, if_pos hE, hf]
    · have ho : ¬ outs l := by unfold outs; omega
      have hE : cdE T n p l = 5 := by simp only [cdE, h, ho, not_true, if_false]; rw [if_pos (by omega)]
      simp [cdT, cdN, cdR, hE]
    · have ho : ¬ outs l := by unfold outs; omega
      have hn := w.n1
      have hn2 := w.n64
      have hE : cdE T n p l = 0 := by simp only [cdE, h, ho, not_true, if_false]; rw [if_neg (by omega)]
      have hf : fcN T n = n := by unfold fcN; rw [if_pos (by omega)]
      refine ⟨by omega, by omega, by omega, ?_, ?_, ?_, hE⟩
      · rw [cdT, if_pos hE, hf]; exact (row6_twice T n p l 0 0 0 0 0 0 0 0 0 0).symm
      · rw [cdN, if_pos (by omega)]
      · rw [cdR, if_pos hE, hf]
  · refine ⟨fun _ => ?_, fun e => (e h).elim⟩
    simp [cdT, cdN, cdR, cdE, h]
theorem svT_zero (T : Tb) : svT T 0 = fun _ _ => 0 := by
  funext r c; unfold svT; rw [if_neg (by omega)]
theorem svT_next (T : Tb) {k : Int} (h : 0 ≤ k) : tupd (tupd (tupd (tupd (tupd (svT T k) k 0 (T k 0)) k 1 (T k 1)) k 2 (T k 2)) k 3 (T k 3)) k 4 (T k 4) = svT T (k + 1) := by
  funext r c
  simp only [tupd, svT]
  by_cases hr : r = k
  · subst hr
    by_cases h4 : c = 4
    · subst h4; simp; omega
    by_cases h3 : c = 3
    · subst h3; simp; omega
    by_cases h2 : c = 2
    · subst h2; simp; omega
    by_cases h1 : c = 1
    · subst h1; simp; omega
    by_cases h0 : c = 0
    · subst h0; simp; omega
    · simp only [h4, h3, h2, h1, h0, and_false, if_false]
      rw [if_neg (by omega), if_neg (by omega)]
  · simp only [hr, false_and, if_false]
    by_cases hx : 0 ≤ r ∧ r < k ∧ c < 5
    · rw [if_pos hx, if_pos (by omega)]
    · rw [if_neg hx, if_neg (by omega)]
theorem vSave : ∀ ds, Sorts cSave.sorts ds → tSave.vc (J N) ds := by
  refine all_t fun T => all_i fun n => all_n ?_
  set_option linter.unusedSimpArgs false in
  simp only [tSave, Tree.vc, PE.den, E.den, dens, BO.ev, List.getElem?_cons_zero, List.getElem?_cons_succ, List.cons_append, List.nil_append, Option.some.injEq, D.i.injEq, D.t.injEq, exists_eq_left', exists_const, forall_const, forall_eq', one_ne, one_eq, min_i64, max_i64, min_u8, max_u8, min_u16, max_u16, tn2, tn3, tn5, and_true, true_and, Jfn_0, Jfn_1, Jfn_2, Jfn_3, Jfn_4, Jfn_5, Jfn_6, Jfn_7, Jfn_8, Jfn_9, Jfn_10, Jfn_11, Jfn_12, Jfn_13, Jfn_14, Jfn_15, Jfn_16, Jfn_17, Jfn_18, Jfn_19, Jfn_20, Jfn_21, Jfn_22, Jfn_23, Jfn_24, Jfn_25, Jfn_26, Jfn_27, Jfn_28, Jfn_29, Jfn_30, Jfn_31, Jfn_32, Jfn_33, Jfn_34, Jfn_35, Jfn_36, Jfn_37, Jfn_38, Jfn_39, Jpr_0, Jpr_1, Jpr_2, Jpr_3, Jpr_4, Jpr_5, Jpr_6, Jpr_7, Jpr_8, Jpr_9, Jpr_10, Jpr_20, Jpr_21]
  intro w
  have hn := w.n1
  have hn2 := w.n64
  refine ⟨by omega, svT_zero T, ?_⟩
  rintro S k h0 hk rfl
  refine ⟨fun hlt => ⟨by omega, by omega, by omega, by omega, (svT_next T h0).symm, by omega, by omega⟩, fun hge => ?_⟩
  have : k = n := by omega
  subst this
  exact ⟨rfl, rfl⟩
theorem lstT_nil : lstT [] = fun _ _ => 0 := by
  funext r c; simp [lstT]
theorem lstT_next (l : List Int) (x : Int) : tupd (lstT l) l.length 0 x = lstT (l ++ [x]) := by
  funext r c
  simp only [tupd, lstT]
  by_cases hr : r = (l.length : Int) ∧ c = 0
  · obtain ⟨rfl, rfl⟩ := hr
    simp
  · rw [if_neg hr]
    by_cases h0 : 0 ≤ r ∧ c = 0
    · rw [if_pos h0, if_pos h0]
      have hne : r.toNat ≠ l.length := fun e => hr ⟨by omega, h0.2⟩
      simp only [List.getD_eq_getElem?_getD]
      rcases Nat.lt_or_ge r.toNat l.length with h | h
      · rw [List.getElem?_append_left h]
      · rw [List.getElem?_eq_none (by omega), List.getElem?_eq_none (by simp; omega)]
    · rw [if_neg h0, if_neg h0]
theorem ovL_len (T : Tb) (n : Int) : ∀ k, (ovL T n k).length ≤ k
  | 0 => by simp [ovL]
  | k + 1 => by
    have := ovL_len T n k
    simp only [ovL]
    split
    · simp; omega
    · omega
theorem vOver : ∀ ds, Sorts cOver.sorts ds → tOver.vc (J N) ds := by
  refine all_t fun T => all_i fun n => all_n ?_
  set_option linter.unusedSimpArgs false in
  simp only [tOver, Tree.vc, PE.den, E.den, dens, BO.ev, List.getElem?_cons_zero, List.getElem?_cons_succ, List.cons_append, List.nil_append, Option.some.injEq, D.i.injEq, D.t.injEq, exists_eq_left', exists_const, forall_const, forall_eq', one_ne, one_eq, min_i64, max_i64, min_u8, max_u8, min_u16, max_u16, tn2, tn3, tn5, and_true, true_and, Jfn_0, Jfn_1, Jfn_2, Jfn_3, Jfn_4, Jfn_5, Jfn_6, Jfn_7, Jfn_8, Jfn_9, Jfn_10, Jfn_11, Jfn_12, Jfn_13, Jfn_14, Jfn_15, Jfn_16, Jfn_17, Jfn_18, Jfn_19, Jfn_20, Jfn_21, Jfn_22, Jfn_23, Jfn_24, Jfn_25, Jfn_26, Jfn_27, Jfn_28, Jfn_29, Jfn_30, Jfn_31, Jfn_32, Jfn_33, Jfn_34, Jfn_35, Jfn_36, Jfn_37, Jfn_38, Jfn_39, Jpr_0, Jpr_1, Jpr_2, Jpr_3, Jpr_4, Jpr_5, Jpr_6, Jpr_7, Jpr_8, Jpr_9, Jpr_10, Jpr_20, Jpr_21]
  intro w
  have hn := w.n1
  have hn2 := w.n64
  refine ⟨by omega, lstT_nil, rfl, ?_⟩
  rintro S m k h0 hk rfl rfl
  have hl := ovL_len T n k.toNat
  refine ⟨fun hlt => ?_, fun hge => ?_⟩
  · have e : (k + 1).toNat = k.toNat + 1 := by omega
    have ek : ((k.toNat : Nat) : Int) = k := by omega
    have step : ovL T n (k + 1).toNat = if Opn T n k ∧ room T k < 0 then ovL T n k.toNat ++ [k] else ovL T n k.toNat := by
      rw [e]; simp only [ovL, ek]
    refine ⟨fun ho => ⟨room_fits w ho, fun hr => ?_, fun hr => ?_⟩, fun ho => ?_⟩
    · have s : ovL T n (k + 1).toNat = ovL T n k.toNat ++ [k] := by rw [step, if_pos ⟨ho, hr⟩]
      refine ⟨by omega, by omega, by omega, by omega, ?_, ?_, by omega, by omega⟩
      · rw [s, lstT_next]
      · rw [s]; simp
    · have s : ovL T n (k + 1).toNat = ovL T n k.toNat := by rw [step, if_neg (fun x => hr x.2)]
      exact ⟨by omega, by omega, by omega, by rw [s], by rw [s], by omega, by omega⟩
    · have s : ovL T n (k + 1).toNat = ovL T n k.toNat := by rw [step, if_neg (fun x => ho x.1)]
      exact ⟨by omega, by omega, by omega, by rw [s], by rw [s], by omega, by omega⟩
  · have : k = n := by omega
    subst this
    exact ⟨rfl, rfl⟩
theorem vCollect : ∀ ds, Sorts cCollect.sorts ds → tCollect.vc (J N) ds := by
  refine all_t fun T => all_i fun n => all_i fun i => all_n ?_
  set_option linter.unusedSimpArgs false in
  simp only [tCollect, Tree.vc, PE.den, E.den, dens, BO.ev, List.getElem?_cons_zero, List.getElem?_cons_succ, List.cons_append, List.nil_append, Option.some.injEq, D.i.injEq, D.t.injEq, exists_eq_left', exists_const, forall_const, forall_eq', one_ne, one_eq, min_i64, max_i64, min_u8, max_u8, min_u16, max_u16, tn2, tn3, tn5, and_true, true_and, Jfn_0, Jfn_1, Jfn_2, Jfn_3, Jfn_4, Jfn_5, Jfn_6, Jfn_7, Jfn_8, Jfn_9, Jfn_10, Jfn_11, Jfn_12, Jfn_13, Jfn_14, Jfn_15, Jfn_16, Jfn_17, Jfn_18, Jfn_19, Jfn_20, Jfn_21, Jfn_22, Jfn_23, Jfn_24, Jfn_25, Jfn_26, Jfn_27, Jfn_28, Jfn_29, Jfn_30, Jfn_31, Jfn_32, Jfn_33, Jfn_34, Jfn_35, Jfn_36, Jfn_37, Jfn_38, Jfn_39, Jpr_0, Jpr_1, Jpr_2, Jpr_3, Jpr_4, Jpr_5, Jpr_6, Jpr_7, Jpr_8, Jpr_9, Jpr_10, Jpr_20, Jpr_21]
  intro w
  refine ⟨⟨[], rfl, lstT_nil.symm, rfl⟩, ?_⟩
  rintro S m q ⟨l, e1, rfl, rfl⟩
  refine ⟨fun ho => ?_, fun ho => ?_⟩
  · have hl := meas_lt w.toWt ho
    have hlen := path_len w.toWt i
    rw [e1, List.length_append] at hlen
    refine ⟨by omega, ho.1, ho.2.1, ⟨l ++ [q], ?_, lstT_next l q, by simp⟩, by omega, by omega⟩
    rw [e1, path_open w.toWt ho]; simp
  · rw [path_not ho, List.append_nil] at e1
    rw [e1]
    exact ⟨rfl, rfl⟩
theorem vContains : ∀ ds, Sorts cContains.sorts ds → tContains.vc (J N) ds := by
  refine all_t fun L => all_i fun m => all_i fun x => all_n ?_
  set_option linter.unusedSimpArgs false in
  simp only [tContains, Tree.vc, PE.den, E.den, dens, BO.ev, List.getElem?_cons_zero, List.getElem?_cons_succ, List.cons_append, List.nil_append, Option.some.injEq, D.i.injEq, D.t.injEq, exists_eq_left', exists_const, forall_const, forall_eq', one_ne, one_eq, min_i64, max_i64, min_u8, max_u8, min_u16, max_u16, tn2, tn3, tn5, and_true, true_and, Jfn_0, Jfn_1, Jfn_2, Jfn_3, Jfn_4, Jfn_5, Jfn_6, Jfn_7, Jfn_8, Jfn_9, Jfn_10, Jfn_11, Jfn_12, Jfn_13, Jfn_14, Jfn_15, Jfn_16, Jfn_17, Jfn_18, Jfn_19, Jfn_20, Jfn_21, Jfn_22, Jfn_23, Jfn_24, Jfn_25, Jfn_26, Jfn_27, Jfn_28, Jfn_29, Jfn_30, Jfn_31, Jfn_32, Jfn_33, Jfn_34, Jfn_35, Jfn_36, Jfn_37, Jfn_38, Jfn_39, Jpr_0, Jpr_1, Jpr_2, Jpr_3, Jpr_4, Jpr_5, Jpr_6, Jpr_7, Jpr_8, Jpr_9, Jpr_10, Jpr_20, Jpr_21]
  intro hm hm2
  refine ⟨fun j h0 h1 => by omega, fun k h0 hk h => ⟨fun hlt => ⟨fun e => ?_, fun e => ⟨by omega, by omega, by omega, fun j a b => ?_, by omega, by omega⟩⟩, fun hge => ?_⟩⟩
  · exact ⟨fun _ => ⟨k, h0, hlt, e.symm⟩, fun _ => h0⟩
  · by_cases hj : j = k
    · rw [hj]; exact fun y => e y.symm
    · exact h j a (by omega)
  · refine ⟨fun y => (y rfl).elim, fun ⟨j, a, b, c⟩ => (h j a (by omega) c).elim⟩
theorem vNew : ∀ ds, Sorts cNew.sorts ds → tNew.vc (J N) ds := by
  refine all_i fun l => all_n ?_
  set_option linter.unusedSimpArgs false in
  simp only [tNew, Tree.vc, PE.den, E.den, dens, BO.ev, List.getElem?_cons_zero, List.getElem?_cons_succ, List.cons_append, List.nil_append, Option.some.injEq, D.i.injEq, D.t.injEq, exists_eq_left', exists_const, forall_const, forall_eq', one_ne, one_eq, min_i64, max_i64, min_u8, max_u8, min_u16, max_u16, tn2, tn3, tn5, and_true, true_and, Jfn_0, Jfn_1, Jfn_2, Jfn_3, Jfn_4, Jfn_5, Jfn_6, Jfn_7, Jfn_8, Jfn_9, Jfn_10, Jfn_11, Jfn_12, Jfn_13, Jfn_14, Jfn_15, Jfn_16, Jfn_17, Jfn_18, Jfn_19, Jfn_20, Jfn_21, Jfn_22, Jfn_23, Jfn_24, Jfn_25, Jfn_26, Jfn_27, Jfn_28, Jfn_29, Jfn_30, Jfn_31, Jfn_32, Jfn_33, Jfn_34, Jfn_35, Jfn_36, Jfn_37, Jfn_38, Jfn_39, Jpr_0, Jpr_1, Jpr_2, Jpr_3, Jpr_4, Jpr_5, Jpr_6, Jpr_7, Jpr_8, Jpr_9, Jpr_10, Jpr_20, Jpr_21]
  intro _ _
  rfl
end Go.Proofs.Ytafipmoglaepcaa.Ac
