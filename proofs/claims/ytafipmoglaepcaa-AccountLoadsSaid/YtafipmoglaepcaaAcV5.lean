/-
  The conditions of the laws AccountSums, AccountHead hold. Conditions: none.
-/
import Derived.Test.YtafipmoglaepcaaAcV4
namespace Go.Proofs.Ytafipmoglaepcaa.Ac
open Go Go.Sx
variable {N : Nat}

theorem acts_of {L : Tb} {m : Int} (h : ActsIn L m) (hm : ¬ 60 < m) : Acts L m := ⟨h.1, by omega, h.2⟩
theorem val_opn {T : Tb} {n i : Int} (h : Opn T n i) (c : Nat) : val T n i c = T i c := by simp [val, h]
theorem err_opn {T : Tb} {n i : Int} (h : Opn T n i) : err T n i = 0 := by simp [err, h]
theorem vLSums : ∀ ds, Sorts (cLaw 6).sorts ds → tLSums.vc (J N) ds := by
  refine all_i fun l => all_t fun L => all_i fun m => all_n ?_
  set_option linter.unusedSimpArgs false in
  simp only [tLSums, Tree.vc, PE.den, E.den, dens, BO.ev, List.getElem?_cons_zero, List.getElem?_cons_succ, List.cons_append, List.nil_append, Option.some.injEq, D.i.injEq, D.t.injEq, exists_eq_left', exists_const, forall_const, forall_eq', one_ne, one_eq, min_i64, max_i64, min_u8, max_u8, min_u16, max_u16, tn2, tn3, tn5, act0, act1, act2, and_true, true_and, Jfn_0, Jfn_1, Jfn_2, Jfn_3, Jfn_4, Jfn_5, Jfn_6, Jfn_7, Jfn_8, Jfn_9, Jfn_10, Jfn_11, Jfn_12, Jfn_13, Jfn_14, Jfn_15, Jfn_16, Jfn_17, Jfn_18, Jfn_19, Jfn_20, Jfn_21, Jfn_22, Jfn_23, Jfn_24, Jfn_25, Jfn_26, Jfn_27, Jfn_28, Jfn_29, Jfn_30, Jfn_31, Jfn_32, Jfn_33, Jfn_34, Jfn_35, Jfn_36, Jfn_37, Jfn_38, Jfn_39, Jfn_40, Jfn_41, Jfn_42, Jpr_0, Jpr_1, Jpr_2, Jpr_3, Jpr_4, Jpr_5, Jpr_11, Jpr_6, Jpr_7, Jpr_8, Jpr_9, Jpr_10, Jpr_12, Jpr_13, Jpr_14, Jpr_15, Jpr_16, Jpr_17, Jpr_20, Jpr_21]
  intro hl ha
  refine ⟨fun _ => trivial, fun h60 => ⟨acts_of ha h60, ?_⟩⟩
  rintro T n w _ _ rfl rfl _ _ rfl rfl
  have hn := w.n1
  have hn2 := w.n64
  refine ⟨fun h => by omega, fun _ => ⟨by omega, rfl, ?_⟩⟩
  rintro _ k h0 hk rfl
  refine ⟨fun hlt => ?_, fun hge => ?_⟩
  rotate_left
  · have : k = n := by omega
    subst this
    exact ⟨fun _ => trivial, fun y => y rfl⟩
  have ek : ((k.toNat : Nat) : Int) = k := by omega
  have e1 : (k + 1).toNat = k.toNat + 1 := by omega
  have s1 : svT T n k 1 = T k 1 := svT_at h0 hlt (by omega)
  have s2 : svT T n k 2 = T k 2 := svT_at h0 hlt (by omega)
  have s3 : svT T n k 3 = T k 3 := svT_at h0 hlt (by omega)
  have s4 : svT T n k 4 = T k 4 := svT_at h0 hlt (by omega)
  have hst : ovL T n (k + 1).toNat = if Opn T n k ∧ room T k < 0 then ovL T n k.toNat ++ [k] else ovL T n k.toNat := by
    rw [e1, ovL_step, ek]
  have hnext := ovL_next (T := T) (n := n) h0 hlt
  have hlen := ovL_len T n k.toNat
  rw [s1, s2, s3, s4]
  refine ⟨fun h4 => ?_, fun h4 => ?_⟩
  · rw [if_neg (fun x => h4 x.1.2.2)] at hst
    exact ⟨by omega, by omega, by omega, by rw [hst], by omega, by omega⟩
  have ho : Opn T n k := ⟨h0, hlt, h4⟩
  have hr := w.rng k ho
  rw [val_opn ho, val_opn ho, err_opn ho]
  rintro _ _ _ _ _ _
  refine ⟨fun y => y rfl, fun _ => ⟨fun y => y rfl, fun _ => ⟨fun y => by omega, fun _ => ⟨hn, sumK_one T n k, ?_⟩⟩⟩⟩
  rintro _ j j0 hj j1 rfl
  refine ⟨fun jlt => ?_, fun jge => ?_⟩
  · rw [svT_at j0 jlt (by omega), svT_at j0 jlt (by omega)]
    have hs := sumK_step (T := T) (n := n) (i := k) j0
    have hle := sumK_le w ho (n - (j + 1)).toNat (j + 1) (by omega)
    have hle0 := sumK_le w ho 0 j (by omega)
    rw [show j + 1 + ((n - (j + 1)).toNat : Int) = n by omega, sumK_all w ho] at hle
    refine ⟨fun j4 => ⟨fun jp => ?_, fun jp => ?_⟩, fun j4 => ?_⟩
    · have jo : Opn T n j := ⟨j0, jlt, j4⟩
      rw [val_opn jo, val_opn jo, err_opn jo]
      rw [if_pos ⟨jo, by omega, jp⟩] at hs
      rintro _ _ _ _ _ _
      refine ⟨fun y => y rfl, fun _ => ⟨by omega, by omega, by omega, by omega, by omega, by omega, by omega, by omega⟩⟩
    · rw [if_neg (fun x => jp x.2.2)] at hs
      exact ⟨by omega, by omega, by omega, by omega, by omega, by omega, by omega⟩
    · rw [if_neg (fun x => j4 x.1.2.2)] at hs
      exact ⟨by omega, by omega, by omega, by omega, by omega, by omega, by omega⟩
  · have : j = n := by omega
    subst this
    rw [sumK_all w ho]
    refine ⟨fun y => y rfl, fun _ => ⟨fun hl1 => ⟨by omega, fun hd => ?_, fun hd => ⟨fun hov => ?_, fun hov => ?_⟩⟩, fun hl1 => ⟨fun hd => ?_, fun hd => ?_⟩⟩⟩
    · by_cases hov : T k 1 < T k 5
      · have := (hnext.2.1 ho (by unfold room; omega)).2
        simp [hov, this] at hd
      · have := hnext.2.2 (fun x => by have := x.2; unfold room at this; omega) hl1
        simp [hov, this] at hd
    · rw [if_pos ⟨ho, by unfold room; omega⟩] at hst
      have : ((ovL T j (k + 1).toNat).length : Int) = (ovL T j k.toNat).length + 1 := by rw [hst]; simp
      exact ⟨by omega, by omega, by omega, by omega, this, by omega, by omega⟩
    · rw [if_neg (fun x => by have := x.2; unfold room at this; omega)] at hst
      exact ⟨by omega, by omega, by omega, by rw [hst], by omega, by omega⟩
    · by_cases hov : T k 1 < T k 5
      · exact hl1 (hnext.2.1 ho (by unfold room; omega)).1
      · simp [hov] at hd
    · have hov : ¬ T k 1 < T k 5 := fun hov => hl1 (hnext.2.1 ho (by unfold room; omega)).1
      rw [if_neg (fun x => by have := x.2; unfold room at this; omega)] at hst
      exact ⟨by omega, by omega, by omega, by rw [hst], by omega, by omega⟩
theorem page_rng (b : Int) : 0 ≤ IntKind.i64.wrap ((IntKind.u64.wrap b).tmod 4097) ∧ IntKind.i64.wrap ((IntKind.u64.wrap b).tmod 4097) ≤ 4096 := by
  have h : 0 ≤ IntKind.u64.wrap b := by
    simp only [IntKind.wrap, IntKind.signed, IntKind.bits]
    simp
    omega
  rw [Int.tmod_eq_emod_of_nonneg h]
  have h2 : 0 ≤ IntKind.u64.wrap b % 4097 ∧ IntKind.u64.wrap b % 4097 ≤ 4096 := by omega
  generalize IntKind.u64.wrap b % 4097 = x at *
  have e : IntKind.i64.wrap x = x := by
    simp only [IntKind.wrap, IntKind.signed, IntKind.bits]
    simp
    omega
  omega
theorem lst_path {T : Tb} {n i : Int} (w : Wt T n) {k : Int} (h0 : 0 ≤ k) (h1 : k < ((path T n i).length : Int)) : lstT (path T n i) k 0 ∈ path T n i ∧ Opn T n (lstT (path T n i) k 0) := by
  have hm : lstT (path T n i) k 0 ∈ path T n i := (lstT_mem _ _).1 ⟨k, h0, h1, rfl⟩
  exact ⟨hm, (mem_path w i hm).1⟩
theorem allT_zero (T L : Tb) : allT T L 0 = fun _ _ => 0 := by
  funext r c; unfold allT; rw [if_neg (by omega)]
theorem allT_next (T L : Tb) {k : Int} (h : 0 ≤ k) : tupd (allT T L k) k 0 (T (L k 0) 5) = allT T L (k + 1) := by
  funext r c
  simp only [tupd, allT]
  by_cases hr : r = k ∧ c = 0
  · obtain ⟨rfl, rfl⟩ := hr
    rw [if_pos ⟨rfl, rfl⟩, if_pos (by omega)]
  · rw [if_neg hr]
    by_cases hx : 0 ≤ r ∧ r < k ∧ c = 0
    · rw [if_pos hx, if_pos (by omega)]
    · rw [if_neg hx, if_neg (by omega)]
theorem vLHead : ∀ ds, Sorts (cLawX 4).sorts ds → tLHead.vc (J N) ds := by
  refine all_i fun l => all_t fun L => all_i fun m => all_i fun kk => all_i fun a => all_i fun b => all_n ?_
  set_option linter.unusedSimpArgs false in
  simp only [tLHead, Tree.vc, PE.den, E.den, dens, BO.ev, List.getElem?_cons_zero, List.getElem?_cons_succ, List.cons_append, List.nil_append, Option.some.injEq, D.i.injEq, D.t.injEq, exists_eq_left', exists_const, forall_const, forall_eq', one_ne, one_eq, min_i64, max_i64, min_u8, max_u8, min_u16, max_u16, tn2, tn3, tn5, act0, act1, act2, and_true, true_and, Jfn_0, Jfn_1, Jfn_2, Jfn_3, Jfn_4, Jfn_5, Jfn_6, Jfn_7, Jfn_8, Jfn_9, Jfn_10, Jfn_11, Jfn_12, Jfn_13, Jfn_14, Jfn_15, Jfn_16, Jfn_17, Jfn_18, Jfn_19, Jfn_20, Jfn_21, Jfn_22, Jfn_23, Jfn_24, Jfn_25, Jfn_26, Jfn_27, Jfn_28, Jfn_29, Jfn_30, Jfn_31, Jfn_32, Jfn_33, Jfn_34, Jfn_35, Jfn_36, Jfn_37, Jfn_38, Jfn_39, Jfn_40, Jfn_41, Jfn_42, Jpr_0, Jpr_1, Jpr_2, Jpr_3, Jpr_4, Jpr_5, Jpr_11, Jpr_6, Jpr_7, Jpr_8, Jpr_9, Jpr_10, Jpr_12, Jpr_13, Jpr_14, Jpr_15, Jpr_16, Jpr_17, Jpr_20, Jpr_21]
  intro hl ha _ _ _
  have hp := page_rng b
  generalize IntKind.i64.wrap ((IntKind.u64.wrap b).tmod 4097) = p at *
  refine ⟨fun _ => trivial, fun h60 => ⟨acts_of ha (by omega), ?_⟩⟩
  rintro T n w _ _ rfl rfl _ _ rfl rfl _ _ rfl rfl
  have hn := w.n1
  have hn2 := w.n64
  have hlen := path_len w.toWt a
  by_cases ho : Opn T n a
  rotate_left
  · have hE : err T n a = 4 := by simp [err, ho]
    have hC : chE T n a p = 4 := by simp [chE, ho]
    have hT : chT T n a p = T := by simp [chT, hC]
    rw [hE, hC, hT, path_not ho]
    refine ⟨fun _ => ⟨fun _ => ⟨fun _ => ?_, fun y => y rfl⟩, fun y => y rfl⟩, fun y => (y (by omega)).elim⟩
    rintro _ _ _ _
    refine ⟨fun _ => ⟨w, ?_⟩, fun y => y rfl⟩
    rintro _ _ _ _
    refine ⟨by omega, by omega, fun bb hb => ⟨fun _ => trivial, fun y => ?_⟩⟩
    have := hb.2 (EqTo.refl _ _)
    exact this y
  rw [err_opn ho]
  refine ⟨fun y => (y rfl).elim, fun _ => ⟨by omega, allT_zero _ _, ?_⟩⟩
  rintro _ k _ h0 hk rfl rfl
  refine ⟨fun hlt => ?_, fun hge => ?_⟩
  · obtain ⟨_, hq⟩ := lst_path w.toWt h0 hlt
    rw [val_opn hq, val_opn hq, err_opn hq]
    rintro _ _ _ _ _ _
    exact ⟨fun y => y rfl, fun _ => ⟨by omega, by omega, by omega, by omega, (allT_next _ _ h0).symm, by omega, by omega⟩⟩
  rintro _ _ rfl rfl
  refine ⟨chT_wf w, ?_⟩
  rintro _ _ rfl rfl
  have hout : ¬ outs p := by unfold outs; omega
  have hC : chE T n a p = if p > head T n a then 5 else 0 := by
    unfold chE; rw [if_neg (fun x => x ho), if_neg hout]
  by_cases hph : p ≤ head T n a
  rotate_left
  · rw [if_pos (by omega)] at hC
    have hT : chT T n a p = T := by simp [chT, hC]
    rw [hC, hT]
    refine ⟨fun y => by simp [hph] at y, fun _ => ⟨fun _ => ⟨fun y => y rfl, fun _ => ⟨by omega, by omega, fun bb hb => ⟨fun y => ?_, fun _ => trivial⟩⟩⟩, fun y => (y (by omega)).elim⟩⟩
    exact hb.2 (EqTo.refl _ _) y
  rw [if_neg (by omega)] at hC
  have hT : chT T n a p = addP (tupd T a 2 (T a 2 + p)) n a p := by simp [chT, hC]
  have hs1 : Shape (tupd T a 2 (T a 2 + p)) T := tupd_shape (by omega) (by omega)
  have hs : Shape (chT T n a p) T := by rw [hT]; exact (addP_shape _ _ _ _).trans hs1
  have hpath : path (tupd T a 2 (T a 2 + p)) n a = path T n a := hs1.path w.toWt a
  rw [hC]
  refine ⟨fun y => by simp [hph] at y, fun _ => ⟨fun y => (y rfl).elim, fun _ j j0 hj => ⟨fun jlt => ?_, fun _ => trivial⟩⟩⟩
  obtain ⟨hm, hq⟩ := lst_path w.toWt j0 jlt
  have hq' := hs.opn.2 hq
  have e5 : chT T n a p (lstT (path T n a) j 0) 5 = T (lstT (path T n a) j 0) 5 + p := by
    rw [hT, addP_5, hpath, if_pos hm, tupd_ne (by omega)]
  have e1 : chT T n a p (lstT (path T n a) j 0) 1 = T (lstT (path T n a) j 0) 1 := by
    rw [hT, addP_1, tupd_ne (by omega)]
  have ek : k = (path T n a).length := by omega
  have eA : allT T (lstT (path T n a)) k j 0 = T (lstT (path T n a) j 0) 5 := by
    unfold allT; rw [if_pos ⟨j0, by omega, rfl⟩]
  have hr := w.rng _ hq
  rw [val_opn hq', val_opn hq', err_opn hq', eA, svT_at hq.1 hq.2.1 (by omega), e5, e1]
  rintro _ _ _ _ _ _
  have hq1 := hq.1
  have hq2 := hq.2.1
  refine ⟨fun y => y rfl, fun _ => ⟨by omega, by omega, fun y => y rfl, fun _ => ⟨fun y => by omega, fun _ => ⟨fun y => by omega, fun _ => ⟨fun p0 => ⟨fun y => ?_, fun _ => ⟨by omega, by omega, by omega, by omega, by omega⟩⟩, fun _ => ⟨by omega, by omega, by omega, by omega, by omega⟩⟩⟩⟩⟩⟩
  have := head_fits w.toWt ho hph p0 _ hm
  omega
end Go.Proofs.Ytafipmoglaepcaa.Ac
