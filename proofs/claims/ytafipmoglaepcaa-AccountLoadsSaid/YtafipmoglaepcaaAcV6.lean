/-
  The conditions of the laws AccountBack, AccountErrors, AccountPeaks hold. Conditions: none.
-/
import Derived.Test.YtafipmoglaepcaaAcV5
import Derived.Test.YtafipmoglaepcaaAcLaw2
namespace Go.Proofs.Ytafipmoglaepcaa.Ac
open Go Go.Sx
variable {N : Nat}

theorem vLBack : ∀ ds, Sorts (cLawX 5).sorts ds → tLBack.vc (J N) ds := by
  refine all_i fun l => all_t fun L => all_i fun m => all_i fun kk => all_i fun a => all_i fun b => all_n ?_
  set_option linter.unusedSimpArgs false in
  simp only [tLBack, Tree.vc, PE.den, E.den, dens, BO.ev, List.getElem?_cons_zero, List.getElem?_cons_succ, List.cons_append, List.nil_append, Option.some.injEq, D.i.injEq, D.t.injEq, exists_eq_left', exists_const, forall_const, forall_eq', one_ne, one_eq, min_i64, max_i64, min_u8, max_u8, min_u16, max_u16, tn2, tn3, tn5, act0, act1, act2, and_true, true_and, Jfn_0, Jfn_1, Jfn_2, Jfn_3, Jfn_4, Jfn_5, Jfn_6, Jfn_7, Jfn_8, Jfn_9, Jfn_10, Jfn_11, Jfn_12, Jfn_13, Jfn_14, Jfn_15, Jfn_16, Jfn_17, Jfn_18, Jfn_19, Jfn_20, Jfn_21, Jfn_22, Jfn_23, Jfn_24, Jfn_25, Jfn_26, Jfn_27, Jfn_28, Jfn_29, Jfn_30, Jfn_31, Jfn_32, Jfn_33, Jfn_34, Jfn_35, Jfn_36, Jfn_37, Jfn_38, Jfn_39, Jfn_40, Jfn_41, Jfn_42, Jpr_0, Jpr_1, Jpr_2, Jpr_3, Jpr_4, Jpr_5, Jpr_11, Jpr_6, Jpr_7, Jpr_8, Jpr_9, Jpr_10, Jpr_12, Jpr_13, Jpr_14, Jpr_15, Jpr_16, Jpr_17, Jpr_20, Jpr_21]
  intro hl ha _ _ _
  refine ⟨fun _ => trivial, fun h60 => ⟨acts_of ha (by omega), ?_⟩⟩
  rintro T n w _ _ rfl rfl _ _ rfl rfl
  have hn := w.n1
  have hn2 := w.n64
  refine ⟨fun hC => ⟨chT_wf w, ?_⟩, fun hC => ⟨chT_wf w, ?_⟩⟩
  · obtain ⟨hG, hcols⟩ := ch_gi w hC
    have wG := giT_wf (i := a) (d := b) (chT_wf (i := a) (d := b) w)
    rintro _ _ rfl rfl
    refine ⟨fun y => y hG, fun _ => ⟨wG, ?_⟩⟩
    rintro _ _ rfl rfl
    refine ⟨by omega, by omega, fun bb hb => ⟨fun y => hb.2 (ButTo.svT hcols) y, fun hb1 => ⟨fun ha0 => ⟨fun han => ?_, fun _ => trivial⟩, fun _ => trivial⟩⟩⟩
    rintro _ _ rfl rfl
    refine ⟨fun hm1 => ⟨by omega, mvT_wf wG, ?_⟩, fun _ => trivial⟩
    rw [svT_at (by omega) han (by omega)]
    rintro _ _ rfl rfl
    refine ⟨fun hm2 => ⟨mvT_wf (mvT_wf wG), ?_⟩, fun _ => trivial⟩
    rintro _ _ rfl rfl bb3 hb3
    exact ⟨fun y => hb3.2 (ButTo.svT (move_back hcols wG hm1 hm2)) y, fun _ => trivial⟩
  · rw [ch_no hC]
    rintro _ _ rfl rfl
    refine ⟨by omega, by omega, fun bb hb => ⟨fun y => hb.2 (ButTo.svT (ButCols.refl T)) y, fun hb1 => ⟨fun ha0 => ⟨fun han => ?_, fun _ => trivial⟩, fun _ => trivial⟩⟩⟩
    rintro _ _ rfl rfl
    refine ⟨fun hm1 => ⟨by omega, mvT_wf w, ?_⟩, fun _ => trivial⟩
    rw [svT_at (by omega) han (by omega)]
    rintro _ _ rfl rfl
    refine ⟨fun hm2 => ⟨mvT_wf (mvT_wf w), ?_⟩, fun _ => trivial⟩
    rintro _ _ rfl rfl bb3 hb3
    exact ⟨fun y => hb3.2 (ButTo.svT (move_back (ButCols.refl T) w hm1 hm2)) y, fun _ => trivial⟩
theorem vLErrs : ∀ ds, Sorts (cLaw 7).sorts ds → tLErrs.vc (J N) ds := by
  refine all_i fun l => all_t fun L => all_i fun m => all_n ?_
  set_option linter.unusedSimpArgs false in
  simp only [tLErrs, Tree.vc, PE.den, E.den, dens, BO.ev, List.getElem?_cons_zero, List.getElem?_cons_succ, List.cons_append, List.nil_append, Option.some.injEq, D.i.injEq, D.t.injEq, exists_eq_left', exists_const, forall_const, forall_eq', one_ne, one_eq, min_i64, max_i64, min_u8, max_u8, min_u16, max_u16, tn2, tn3, tn5, act0, act1, act2, and_true, true_and, Jfn_0, Jfn_1, Jfn_2, Jfn_3, Jfn_4, Jfn_5, Jfn_6, Jfn_7, Jfn_8, Jfn_9, Jfn_10, Jfn_11, Jfn_12, Jfn_13, Jfn_14, Jfn_15, Jfn_16, Jfn_17, Jfn_18, Jfn_19, Jfn_20, Jfn_21, Jfn_22, Jfn_23, Jfn_24, Jfn_25, Jfn_26, Jfn_27, Jfn_28, Jfn_29, Jfn_30, Jfn_31, Jfn_32, Jfn_33, Jfn_34, Jfn_35, Jfn_36, Jfn_37, Jfn_38, Jfn_39, Jfn_40, Jfn_41, Jfn_42, Jpr_0, Jpr_1, Jpr_2, Jpr_3, Jpr_4, Jpr_5, Jpr_11, Jpr_6, Jpr_7, Jpr_8, Jpr_9, Jpr_10, Jpr_12, Jpr_13, Jpr_14, Jpr_15, Jpr_16, Jpr_17, Jpr_20, Jpr_21]
  intro hl ha
  refine ⟨fun _ => trivial, fun h60 => ⟨⟨by omega, by omega, fun k a b => by omega⟩, ?_⟩⟩
  intro T0 n0 w0
  refine ⟨ha.1, ?_⟩
  intro T n k h0 hk w
  refine ⟨fun hlt => ?_, fun _ => trivial⟩
  rintro _ _ rfl rfl _ _ rfl rfl
  have wD := doT_wf (k := L k 0) (a := L k 1) (b := L k 2) w
  refine ⟨ha.2 k h0 hlt, ?_⟩
  rintro _ _ _ _ _ _ _ _
  refine ⟨wD, ?_⟩
  rintro _ _ _ _
  have hn := w.n1
  have hn2 := w.n64
  have hD := wD.n1
  have hD2 := wD.n64
  have hl1 := ovL_len T n n.toNat
  have hl2 := ovL_len (doT T n (L k 0) (L k 1) (L k 2)) (doN T n (L k 0) (L k 1) (L k 2)) (doN T n (L k 0) (L k 1) (L k 2)).toNat
  refine ⟨fun hE => ?_, fun hE => ?_⟩
  · obtain ⟨e1, e2⟩ := doE_keeps hE
    rintro _ _ _ _
    refine ⟨by omega, by omega, by omega, by omega, fun bq hq => ⟨fun y => hq.2 ⟨e2, by rw [e1, e2]; exact EqTo.refl _ _⟩ y, fun _ => ?_⟩⟩
    refine ⟨by omega, fun j j0 hj => ⟨fun jlt => ⟨fun h6 => ⟨by omega, by omega, fun bb hb => ⟨fun y => ?_, fun _ => ⟨by clear hb; omega, by clear hb; omega, by clear hb; omega, by clear hb; omega, by clear hb; omega⟩⟩⟩, fun _ => ⟨by omega, by omega, by omega, by omega, by omega⟩⟩, fun _ => ⟨by omega, by omega, by omega, by omega, by omega⟩⟩⟩
    rw [lstT_mem] at hb
    have hm := (lstT_mem _ _).1 ⟨j, j0, jlt, rfl⟩
    obtain ⟨x0, x1, x2, x3⟩ := ovL_mem.1 hm
    rw [Int.tmod_eq_emod_of_nonneg (ha.2 k h0 hlt).1] at h6
    obtain ⟨y2, y3⟩ := do_over w h6 x2 x3
    exact hb.2 (ovL_mem.2 ⟨y2.1, by have := y2.2.1; omega, y2, y3⟩) y
  · refine ⟨by omega, fun j j0 hj => ⟨fun jlt => ⟨fun h6 => ⟨by omega, by omega, fun bb hb => ⟨fun y => ?_, fun _ => ⟨by clear hb; omega, by clear hb; omega, by clear hb; omega, by clear hb; omega, by clear hb; omega⟩⟩⟩, fun _ => ⟨by omega, by omega, by omega, by omega, by omega⟩⟩, fun _ => ⟨by omega, by omega, by omega, by omega, by omega⟩⟩⟩
    rw [lstT_mem] at hb
    have hm := (lstT_mem _ _).1 ⟨j, j0, jlt, rfl⟩
    obtain ⟨x0, x1, x2, x3⟩ := ovL_mem.1 hm
    rw [Int.tmod_eq_emod_of_nonneg (ha.2 k h0 hlt).1] at h6
    obtain ⟨y2, y3⟩ := do_over w h6 x2 x3
    exact hb.2 (ovL_mem.2 ⟨y2.1, by have := y2.2.1; omega, y2, y3⟩) y
theorem vLPeaks : ∀ ds, Sorts (cLaw 3).sorts ds → tLPeaks.vc (J N) ds := by
  refine all_i fun l => all_t fun L => all_i fun m => all_n ?_
  set_option linter.unusedSimpArgs false in
  simp only [tLPeaks, Tree.vc, PE.den, E.den, dens, BO.ev, List.getElem?_cons_zero, List.getElem?_cons_succ, List.cons_append, List.nil_append, Option.some.injEq, D.i.injEq, D.t.injEq, exists_eq_left', exists_const, forall_const, forall_eq', one_ne, one_eq, min_i64, max_i64, min_u8, max_u8, min_u16, max_u16, tn2, tn3, tn5, act0, act1, act2, and_true, true_and, Jfn_0, Jfn_1, Jfn_2, Jfn_3, Jfn_4, Jfn_5, Jfn_6, Jfn_7, Jfn_8, Jfn_9, Jfn_10, Jfn_11, Jfn_12, Jfn_13, Jfn_14, Jfn_15, Jfn_16, Jfn_17, Jfn_18, Jfn_19, Jfn_20, Jfn_21, Jfn_22, Jfn_23, Jfn_24, Jfn_25, Jfn_26, Jfn_27, Jfn_28, Jfn_29, Jfn_30, Jfn_31, Jfn_32, Jfn_33, Jfn_34, Jfn_35, Jfn_36, Jfn_37, Jfn_38, Jfn_39, Jfn_40, Jfn_41, Jfn_42, Jpr_0, Jpr_1, Jpr_2, Jpr_3, Jpr_4, Jpr_5, Jpr_11, Jpr_6, Jpr_7, Jpr_8, Jpr_9, Jpr_10, Jpr_12, Jpr_13, Jpr_14, Jpr_15, Jpr_16, Jpr_17, Jpr_20, Jpr_21]
  intro hl ha
  have hw := wrap_small hl
  generalize (IntKind.i64.wrap l).tmod 4097 = lim at *
  refine ⟨fun _ => trivial, fun h60 => ⟨⟨by omega, by omega, fun k a b => by omega⟩, ?_⟩⟩
  rintro _ _ rfl rfl
  have w0 : Wf (newT lim) 1 := newT_wf hw
  refine ⟨ha.1, w0, ?_, ?_⟩
  · intro i hi
    have h1 := hi.1
    have h2 : i < 1 := hi.2.1
    have : i = 0 := by omega
    subst this
    exact (row6_on (fun _ _ => 0) 0 (-1) lim 0 0 0 0).2.2.2.1.symm
  intro P T n k h0 hk w hP
  refine ⟨fun hlt => ⟨ha.2 k h0 hlt, ?_⟩, fun _ => trivial⟩
  have wD := doT_wf (k := L k 0) (a := L k 1) (b := L k 2) w
  have hD := wD.n1
  have hD2 := wD.n64
  rw [Int.tmod_eq_emod_of_nonneg (ha.2 k h0 hlt).1]
  rintro _ _ _ _ _ _ _ _
  refine ⟨fun h8 => ⟨fun hE => ?_, fun hE => ?_⟩, fun h8 => ?_⟩
  · have hR := doR_rng w h8 hE
    refine ⟨fun y => by omega, fun _ => ⟨fun y => by omega, fun _ => ?_⟩⟩
    refine ⟨(peaks_new w hP h8).resolve_right (fun x => x hE), fun Q j j0 hj hQ => ⟨fun jlt => ⟨wD, ?_⟩, fun jge => ⟨by omega, by omega, by omega, wD, hQ.last (by omega), by omega, by omega⟩⟩⟩
    intro _ _ _ _ _ _ _ _ _ _
    refine ⟨fun y => (y trivial).elim, fun _ => ⟨fun he => ?_, fun he => ?_⟩⟩
    · have jo : Opn (doT T n (L k 0) (L k 1) (L k 2)) (doN T n (L k 0) (L k 1) (L k 2)) j := Classical.not_not.1 fun x => by simp [err, x] at he
      rw [val_opn jo, val_opn jo]
      have hat := hQ.at jo
      exact ⟨fun y => y hat, fun _ => ⟨by omega, by omega, by omega, hQ.next hat.symm, by omega, by omega⟩⟩
    · have jo : ¬ Opn (doT T n (L k 0) (L k 1) (L k 2)) (doN T n (L k 0) (L k 1) (L k 2)) j := fun x => he (err_opn x)
      exact ⟨by omega, by omega, by omega, hQ.skip jo, by omega, by omega⟩
  · refine ⟨peaks_old w hP (fun x => hE x.2), fun Q j j0 hj hQ => ⟨fun jlt => ⟨wD, ?_⟩, fun jge => ⟨by omega, by omega, by omega, wD, hQ.last (by omega), by omega, by omega⟩⟩⟩
    intro _ _ _ _ _ _ _ _ _ _
    refine ⟨fun y => (y trivial).elim, fun _ => ⟨fun he => ?_, fun he => ?_⟩⟩
    · have jo : Opn (doT T n (L k 0) (L k 1) (L k 2)) (doN T n (L k 0) (L k 1) (L k 2)) j := Classical.not_not.1 fun x => by simp [err, x] at he
      rw [val_opn jo, val_opn jo]
      have hat := hQ.at jo
      exact ⟨fun y => y hat, fun _ => ⟨by omega, by omega, by omega, hQ.next hat.symm, by omega, by omega⟩⟩
    · have jo : ¬ Opn (doT T n (L k 0) (L k 1) (L k 2)) (doN T n (L k 0) (L k 1) (L k 2)) j := fun x => he (err_opn x)
      exact ⟨by omega, by omega, by omega, hQ.skip jo, by omega, by omega⟩
  · refine ⟨peaks_old w hP (fun x => h8 x.1), fun Q j j0 hj hQ => ⟨fun jlt => ⟨wD, ?_⟩, fun jge => ⟨by omega, by omega, by omega, wD, hQ.last (by omega), by omega, by omega⟩⟩⟩
    intro _ _ _ _ _ _ _ _ _ _
    refine ⟨fun y => (y trivial).elim, fun _ => ⟨fun he => ?_, fun he => ?_⟩⟩
    · have jo : Opn (doT T n (L k 0) (L k 1) (L k 2)) (doN T n (L k 0) (L k 1) (L k 2)) j := Classical.not_not.1 fun x => by simp [err, x] at he
      rw [val_opn jo, val_opn jo]
      have hat := hQ.at jo
      exact ⟨fun y => y hat, fun _ => ⟨by omega, by omega, by omega, hQ.next hat.symm, by omega, by omega⟩⟩
    · have jo : ¬ Opn (doT T n (L k 0) (L k 1) (L k 2)) (doN T n (L k 0) (L k 1) (L k 2)) j := fun x => he (err_opn x)
      exact ⟨by omega, by omega, by omega, hQ.skip jo, by omega, by omega⟩
end Go.Proofs.Ytafipmoglaepcaa.Ac
