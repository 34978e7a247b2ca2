/-
  The formulas of Load hold. Conditions: none.
-/
import Derived.Test.YtafipmoglaepcaaAcV9
import Derived.Test.YtafipmoglaepcaaAcV7
import Derived.Test.YtafipmoglaepcaaAcT3
import Derived.Test.YtafipmoglaepcaaAcV2
import Derived.Test.YtafipmoglaepcaaAcLaw
namespace Go.Proofs.Ytafipmoglaepcaa.Ac
open Go Go.Sx
variable {N : Nat}

/-! ### Small facts -/

theorem path_last {T : Tb} {n : Int} (w : Wt T n) : ∀ i, Opn T n i → (path T n i).getLast? = some 0 := by
  refine up w (fun i h1 h2 => absurd h2 h1) fun i ho ih _ => ?_
  rw [path_open w ho]
  by_cases h0 : i = 0
  · subst h0; rw [w.rootp, path_not not_opn_neg]; rfl
  · have := ih (w.par i ho h0)
    rw [List.getLast?_cons, this]; rfl
theorem lst_last {l : List Int} (h : l.getLast? = some 0) : 1 ≤ l.length ∧ lstT l ((l.length : Int) - 1) 0 = 0 := by
  have hl : 1 ≤ l.length := by
    rcases l with _ | ⟨a, l⟩
    · cases h
    · simp
  refine ⟨hl, ?_⟩
  unfold lstT
  rw [if_pos ⟨by omega, rfl⟩, List.getD_eq_getElem?_getD, show ((l.length : Int) - 1).toNat = l.length - 1 by omega, ← List.getLast?_eq_getElem?, h]
  rfl
theorem lst_mem {l : List Int} (hl : 1 ≤ l.length) (h : lstT l ((l.length : Int) - 1) 0 = 0) : 0 ∈ l := by
  unfold lstT at h
  rw [if_pos ⟨by omega, rfl⟩, List.getD_eq_getElem?_getD, show ((l.length : Int) - 1).toNat = l.length - 1 by omega, ← List.getLast?_eq_getElem?] at h
  rcases e : l.getLast? with _ | a
  · rw [List.getLast?_eq_none_iff] at e; subst e; simp at hl
  · rw [e] at h
    simp only [Option.getD_some] at h
    subst h
    exact List.mem_of_getLast? e
theorem good_last {R : Tb} {n i : Int} (t : Top R n) (h : good R n i) : ((pthL R n i).length : Int) ≤ n ∧ 1 ≤ (pthL R n i).length ∧ lstT (pthL R n i) (((pthL R n i).length : Int) - 1) 0 = 0 := by
  rw [pthL_gd t h]
  have hl := path_len_n (gd_wt t) i
  have hn := t.n1
  have := lst_last (path_last (gd_wt t) i (gd_opn.2 h))
  exact ⟨by omega, this.1, this.2⟩
theorem pth_pos {R : Tb} {n i : Int} (hn : 1 ≤ n) (h : Opn R n i) : 1 ≤ (pthL R n i).length := by
  unfold pthL
  rw [show (n + 1).toNat = n.toNat + 1 by omega, pathF, if_pos h]
  simp
theorem RowsOk.zero (R : Tb) : RowsOk R 0 := fun r h0 h1 => by omega
theorem RowsOk.next {R : Tb} {k : Int} (h : RowsOk R k) (hk : RowOk R k) : RowsOk R (k + 1) := fun r h0 h1 => by
  by_cases e : r = k
  · subst e; exact hk
  · exact h r h0 (by omega)
theorem row_shut {R : Tb} {k : Int} (h4 : R k 4 ≠ 0) (h : R k 0 = -1 ∧ R k 1 = 0 ∧ R k 2 = 0 ∧ R k 3 = 0) : RowOk R k := by unfold RowOk; rw [if_neg h4]; exact h
theorem row_opn {R : Tb} {k : Int} (h4 : R k 4 = 0) (h : 0 ≤ R k 1 ∧ R k 1 ≤ 4096 ∧ 0 ≤ R k 2 ∧ R k 2 ≤ 4096 ∧ 0 ≤ R k 3 ∧ R k 3 ≤ 4096) : RowOk R k := by unfold RowOk; rw [if_pos h4]; exact h
theorem row_shut' {R : Tb} {k : Int} (h4 : R k 4 ≠ 0) (h : RowOk R k) : R k 0 = -1 ∧ R k 1 = 0 ∧ R k 2 = 0 ∧ R k 3 = 0 := by unfold RowOk at h; rw [if_neg h4] at h; exact h
theorem row_opn' {R : Tb} {k : Int} (h4 : R k 4 = 0) (h : RowOk R k) : 0 ≤ R k 1 ∧ R k 1 ≤ 4096 ∧ 0 ≤ R k 2 ∧ R k 2 ≤ 4096 ∧ 0 ≤ R k 3 ∧ R k 3 ≤ 4096 := by unfold RowOk at h; rw [if_pos h4] at h; exact h
theorem all_next {P : Int → Prop} {a k : Int} (h : ∀ j, a ≤ j → j < k → P j) (hk : a ≤ k → P k) : ∀ j, a ≤ j → j < k + 1 → P j := fun j h0 h1 => by
  by_cases e : j = k
  · subst e; exact hk h0
  · exact h j h0 (by omega)
theorem ldE_small {n : Int} (h : ¬ 64 < n) : ldE n = 6 := by unfold ldE; rw [if_neg h]
theorem ldE_long {n : Int} (h : 64 < n) : ldE n = 3 := by unfold ldE; rw [if_pos h]

theorem sv_eq {R T : Tb} {n : Int} (h : RefOf R T n) : EqTo (svT T n) R n := fun r a b => by
  have e : ∀ c, c < 5 → svT T n r c = R r c := fun c hc => by unfold svT; rw [if_pos ⟨a, b, hc⟩, h r a b c hc]
  exact ⟨e 0 (by omega), e 1 (by omega), e 2 (by omega), e 3 (by omega), by rw [e 4 (by omega)]⟩

theorem vBig : ∀ ds, Sorts cBig.sorts ds → tBig.vc (J N) ds := by
  refine all_t fun T => all_i fun n => all_n ?_
  set_option linter.unusedSimpArgs false in
  simp only [tBig, Tree.vc, PE.den, E.den, dens, BO.ev, List.getElem?_cons_zero, List.getElem?_cons_succ, List.cons_append, List.nil_append, Option.some.injEq, D.i.injEq, D.t.injEq, exists_eq_left', exists_const, forall_const, forall_eq', one_ne, one_eq, min_i64, max_i64, min_u8, max_u8, min_u16, max_u16, tn2, tn3, tn5, act0, act1, act2, and_true, true_and, Jfn_0, Jfn_1, Jfn_2, Jfn_3, Jfn_4, Jfn_5, Jfn_6, Jfn_7, Jfn_8, Jfn_9, Jfn_10, Jfn_11, Jfn_12, Jfn_13, Jfn_14, Jfn_15, Jfn_16, Jfn_17, Jfn_18, Jfn_19, Jfn_20, Jfn_21, Jfn_22, Jfn_23, Jfn_24, Jfn_25, Jfn_26, Jfn_27, Jfn_28, Jfn_29, Jfn_30, Jfn_31, Jfn_32, Jfn_33, Jfn_34, Jfn_35, Jfn_36, Jfn_37, Jfn_38, Jfn_39, Jfn_40, Jfn_43, Jfn_44, Jfn_45, Jfn_46, Jfn_47, Jfn_48, Jfn_41, Jfn_42, Jpr_0, Jpr_1, Jpr_2, Jpr_3, Jpr_4, Jpr_5, Jpr_11, Jpr_6, Jpr_7, Jpr_8, Jpr_9, Jpr_10, Jpr_12, Jpr_13, Jpr_14, Jpr_15, Jpr_16, Jpr_17, Jpr_18, Jpr_19, Jpr_22, Jpr_23, Jpr_24, Jpr_25, Jpr_26, Jpr_27, Jpr_28, Jfn_49, Jfn_50, Jfn_51, Jfn_52, Jpr_31, Jfn_53, Jfn_54, Jfn_55, Jfn_56, Jfn_57, Jfn_58, Jpr_33, Jpr_34, Jpr_35, Jpr_36, Jpr_37, Jpr_38, Jpr_39, Jpr_40, Jpr_41, Jpr_42, Jpr_20, Jpr_21]
  intro h0 h1
  refine ⟨fun r a b => by omega, fun k hk hkn hT => ⟨fun hlt => ⟨fun hb => ⟨fun _ => ⟨k, hk, hlt, hb⟩, fun _ => hk⟩, fun hb => ?_⟩, fun hge => ⟨fun h => absurd rfl h, ?_⟩⟩⟩
  · exact ⟨by omega, by omega, by omega, all_next hT fun _ => by omega, by omega, by omega⟩
  · rintro ⟨r, a, b, c⟩
    have := hT r a (by omega)
    omega
theorem vWalkL : ∀ ds, Sorts (cWalkL 21).sorts ds → tWalkL.vc (J N) ds := by
  refine all_t fun T => all_i fun n => all_i fun i => all_i fun c => all_n ?_
  set_option linter.unusedSimpArgs false in
  simp only [tWalkL, Tree.vc, PE.den, E.den, dens, BO.ev, List.getElem?_cons_zero, List.getElem?_cons_succ, List.cons_append, List.nil_append, Option.some.injEq, D.i.injEq, D.t.injEq, exists_eq_left', exists_const, forall_const, forall_eq', one_ne, one_eq, min_i64, max_i64, min_u8, max_u8, min_u16, max_u16, tn2, tn3, tn5, act0, act1, act2, and_true, true_and, Jfn_0, Jfn_1, Jfn_2, Jfn_3, Jfn_4, Jfn_5, Jfn_6, Jfn_7, Jfn_8, Jfn_9, Jfn_10, Jfn_11, Jfn_12, Jfn_13, Jfn_14, Jfn_15, Jfn_16, Jfn_17, Jfn_18, Jfn_19, Jfn_20, Jfn_21, Jfn_22, Jfn_23, Jfn_24, Jfn_25, Jfn_26, Jfn_27, Jfn_28, Jfn_29, Jfn_30, Jfn_31, Jfn_32, Jfn_33, Jfn_34, Jfn_35, Jfn_36, Jfn_37, Jfn_38, Jfn_39, Jfn_40, Jfn_43, Jfn_44, Jfn_45, Jfn_46, Jfn_47, Jfn_48, Jfn_41, Jfn_42, Jpr_0, Jpr_1, Jpr_2, Jpr_3, Jpr_4, Jpr_5, Jpr_11, Jpr_6, Jpr_7, Jpr_8, Jpr_9, Jpr_10, Jpr_12, Jpr_13, Jpr_14, Jpr_15, Jpr_16, Jpr_17, Jpr_18, Jpr_19, Jpr_22, Jpr_23, Jpr_24, Jpr_25, Jpr_26, Jpr_27, Jpr_28, Jfn_49, Jfn_50, Jfn_51, Jfn_52, Jpr_31, Jfn_53, Jfn_54, Jfn_55, Jfn_56, Jfn_57, Jfn_58, Jpr_33, Jpr_34, Jpr_35, Jpr_36, Jpr_37, Jpr_38, Jpr_39, Jpr_40, Jpr_41, Jpr_42, Jpr_20, Jpr_21]
  intro t hi hc hs hh
  have w := gd_wt t
  have hn := t.n1
  have hn2 := t.n64
  have p0 : part (gdT T n) n i 0 = 1 := rfl
  have hi0 := hi.1
  have hi1 := hi.2.1
  have hsl := size_le (i := i) w
  refine ⟨by omega, hi0, hi1, by omega, (wlK_0 T n i).symm, by omega, ?_⟩
  rintro _ _ k hk hkn rfl rfl
  have hsh := wlK_shape T n i k
  have hg := gd_shape hsh n
  have hop : Opn (gdT (wlK T n i k) n) n k ↔ Opn (gdT T n) n k := hg.opn
  have hst := part_step (T := gdT T n) (n := n) (i := i) hk
  have hm := part_mono (i := i) w k.toNat 0 (by omega)
  have hp1 : 1 ≤ part (gdT T n) n i k := by
    have := (part_mono (i := i) w 0 k hk).1
    exact this
  refine ⟨fun hlt => ⟨fun k0 => ⟨fun ko => ⟨fun e => ?_, fun e => ?_⟩, fun ko => ?_⟩, fun k0 => ?_⟩, fun hge => ?_⟩
  · have ko' : Opn T n k := hsh.opn.1 ko
    have e' : T k 0 = i := by rw [← wlK_ne T n i k k (c := 0) (by omega)]; exact e
    have hgi : good T n i := gd_opn.1 hi
    have hgk : Opn (gdT T n) n k := gd_opn.2 (good_kid t hgi ko' e')
    have hsz : size (gdT (wlK T n i k) n) n k = size (gdT T n) n k := by
      unfold size
      refine sumN_congr fun j _ => ?_
      rw [hg.path w]
      exact ite_iff (by rw [hg.opn]) _ _
    have hhi : high (gdT (wlK T n i k) n) n k = high (gdT T n) n k := by unfold high; rw [hg.path w]
    rw [if_pos ⟨hgk, k0, by rw [gd_0]; exact e'⟩] at hst
    have hm2 := (part_mono (i := i) w (n - (k + 1)).toNat (k + 1) (by omega)).2
    rw [show k + 1 + ((n - (k + 1)).toNat : Int) = n by omega, size_part w hi] at hm2
    have h1 := high_ok (i := k) w
    have h2 := high_kid w hgk
    rw [gd_0, e'] at h2
    rw [hsz, hhi]
    refine ⟨hsh.top t, hop.2 hgk, by omega, by omega, by omega, ?_⟩
    rintro _ _ _ _
    exact ⟨by omega, by omega, by omega, (wlK_step t hgk k0 e').symm, by omega, by omega, by omega⟩
  · rw [wlK_skip (fun x => e (by rw [wlK_ne T n i k k (c := 0) (by omega)]; exact x.2.2)), hst, if_neg (fun x => e (by rw [wlK_ne T n i k k (c := 0) (by omega), ← gd_0 T n]; exact x.2.2))]
    exact ⟨by omega, by omega, by omega, rfl, by omega, by omega, by omega⟩
  · have kx : ¬ Opn (gdT T n) n k := fun x => ko (hsh.opn.2 (gd_opn.1 x).1)
    rw [wlK_skip (fun x => kx x.1), hst, if_neg (fun x => kx x.1)]
    exact ⟨by omega, by omega, by omega, rfl, by omega, by omega, by omega⟩
  · rw [wlK_skip (fun x => k0 x.2.1), hst, if_neg (fun x => k0 x.2.1)]
    exact ⟨by omega, by omega, by omega, rfl, by omega, by omega, by omega⟩
  · have : k = n := by omega
    subst this
    exact ⟨(wlK_last t hi).symm, by rw [size_part w hi]⟩
theorem vClosed : ∀ ds, Sorts cClosed.sorts ds → tClosed.vc (J N) ds := fun _ _ => trivial
theorem vRLdOk : ∀ ds, Sorts rLdOk.sorts ds → tRLdOk.vc (J N) ds := by
  refine all_t fun R => all_i fun n => all_n ?_
  set_option linter.unusedSimpArgs false in
  simp only [tRLdOk, Tree.vc, PE.den, E.den, dens, BO.ev, List.getElem?_cons_zero, List.getElem?_cons_succ, List.cons_append, List.nil_append, Option.some.injEq, D.i.injEq, D.t.injEq, exists_eq_left', exists_const, forall_const, forall_eq', one_ne, one_eq, min_i64, max_i64, min_u8, max_u8, min_u16, max_u16, tn2, tn3, tn5, act0, act1, act2, and_true, true_and, Jfn_0, Jfn_1, Jfn_2, Jfn_3, Jfn_4, Jfn_5, Jfn_6, Jfn_7, Jfn_8, Jfn_9, Jfn_10, Jfn_11, Jfn_12, Jfn_13, Jfn_14, Jfn_15, Jfn_16, Jfn_17, Jfn_18, Jfn_19, Jfn_20, Jfn_21, Jfn_22, Jfn_23, Jfn_24, Jfn_25, Jfn_26, Jfn_27, Jfn_28, Jfn_29, Jfn_30, Jfn_31, Jfn_32, Jfn_33, Jfn_34, Jfn_35, Jfn_36, Jfn_37, Jfn_38, Jfn_39, Jfn_40, Jfn_43, Jfn_44, Jfn_45, Jfn_46, Jfn_47, Jfn_48, Jfn_41, Jfn_42, Jpr_0, Jpr_1, Jpr_2, Jpr_3, Jpr_4, Jpr_5, Jpr_11, Jpr_6, Jpr_7, Jpr_8, Jpr_9, Jpr_10, Jpr_12, Jpr_13, Jpr_14, Jpr_15, Jpr_16, Jpr_17, Jpr_18, Jpr_19, Jpr_22, Jpr_23, Jpr_24, Jpr_25, Jpr_26, Jpr_27, Jpr_28, Jfn_49, Jfn_50, Jfn_51, Jfn_52, Jpr_31, Jfn_53, Jfn_54, Jfn_55, Jfn_56, Jfn_57, Jfn_58, Jpr_33, Jpr_34, Jpr_35, Jpr_36, Jpr_37, Jpr_38, Jpr_39, Jpr_40, Jpr_41, Jpr_42, Jpr_20, Jpr_21]
  intro hg w
  have hn1 := w.n1
  have hn2 := w.n64
  have t := right_top w
  have hrow := right_rows w
  have hgood := right_good w
  have hpeak := right_peak w
  have hpar : ∀ j, 0 < j → Opn R n j → Opn R n (R j 0) := fun j h0 ho => (rwt w).par j ho (by omega)
  have hown := hrow.own
  refine ⟨fun h => by omega, fun _ => ⟨by omega, fun h => by omega, fun _ => ⟨by omega, fun h => h t.root, fun _ => ⟨fun h => h t.rootp, fun _ => ⟨by omega, by omega, by omega, fun h => h (right_last w), fun _ =>
    ⟨by omega, .zero R, fun j a b => by omega, ?_⟩⟩⟩⟩⟩⟩
  intro k hk hkn hrk hpk
  refine ⟨fun hlt => ?_, fun hge => ⟨fun j a b => by omega, ?_⟩⟩
  · have inc : (-9223372036854775808 ≤ k + 1 ∧ k + 1 ≤ 9223372036854775807) ∧ 0 ≤ k + 1 ∧ k + 1 ≤ n ∧ RowsOk R (k + 1) ∧ (∀ j : Int, 0 < j → j < k + 1 → Opn R n j → Opn R n (R j 0)) ∧ 0 ≤ n - (k + 1) ∧ n - (k + 1) < n - k :=
      ⟨by omega, by omega, by omega, hrk.next (hrow k hk hlt), fun j a _ ho => hpar j a ho, by omega, by omega⟩
    refine ⟨fun h4 => ⟨fun h => h ?_, fun _ => ⟨fun _ => inc, fun _ => inc⟩⟩, fun h4 => ?_⟩
    · have := row_shut' h4 (hrow k hk hlt)
      exact ⟨this.1, this.2.1, this.2.2.1, this.2.2.2, by rw [if_neg h4], by omega⟩
    · have := row_opn' h4 (hrow k hk hlt)
      refine ⟨fun _ => ⟨fun _ => ⟨fun _ => ⟨fun _ => ⟨fun _ => ⟨fun h => by omega, fun _ => ⟨fun h0 => ⟨fun h => h (hpar k h0 ⟨hk, hlt, h4⟩), fun _ => inc⟩, fun _ => inc⟩⟩, fun h => by omega⟩, fun h => by omega⟩, fun h => by omega⟩, fun h => by omega⟩, fun h => by omega⟩
  · intro k2 hk2 hkn2 hg2
    refine ⟨fun hlt => ⟨fun h4 => ?_, fun h4 => ?_⟩, fun hge => ⟨fun j a b => by omega, ?_⟩⟩
    · exact ⟨by omega, by omega, by omega, fun j _ _ ho => hgood j ho, by omega, by omega⟩
    · refine ⟨⟨by omega, hn2⟩, ?_⟩
      rintro _ _ _ _
      have := good_last t (hgood k2 ⟨hk2, hlt, h4⟩)
      exact ⟨fun h => by omega, fun _ => ⟨by omega, by omega, by omega, fun h => h this.2.2, fun _ => ⟨by omega, by omega, by omega, fun j _ _ ho => hgood j ho, by omega, by omega⟩⟩⟩
    · intro k3 hk3 hkn3 hg3
      refine ⟨fun hlt => ⟨fun h4 => ?_, fun h4 => ?_⟩, fun hge => trivial⟩
      · have := hpeak k3 hk3 hlt
        exact ⟨⟨by omega, hn2⟩, hown, fun h => by omega, fun _ => ⟨by omega, by omega, by omega, fun j a _ ho => hpeak j a ho.2.1, by omega, by omega⟩⟩
      · exact ⟨by omega, by omega, by omega, fun j a _ ho => hpeak j a ho.2.1, by omega, by omega⟩
theorem vRLdBad : ∀ ds, Sorts rLdBad.sorts ds → tRLdBad.vc (J N) ds := by
  refine all_t fun R => all_i fun n => all_n ?_
  set_option linter.unusedSimpArgs false in
  simp only [tRLdBad, Tree.vc, PE.den, E.den, dens, BO.ev, List.getElem?_cons_zero, List.getElem?_cons_succ, List.cons_append, List.nil_append, Option.some.injEq, D.i.injEq, D.t.injEq, exists_eq_left', exists_const, forall_const, forall_eq', one_ne, one_eq, min_i64, max_i64, min_u8, max_u8, min_u16, max_u16, tn2, tn3, tn5, act0, act1, act2, and_true, true_and, Jfn_0, Jfn_1, Jfn_2, Jfn_3, Jfn_4, Jfn_5, Jfn_6, Jfn_7, Jfn_8, Jfn_9, Jfn_10, Jfn_11, Jfn_12, Jfn_13, Jfn_14, Jfn_15, Jfn_16, Jfn_17, Jfn_18, Jfn_19, Jfn_20, Jfn_21, Jfn_22, Jfn_23, Jfn_24, Jfn_25, Jfn_26, Jfn_27, Jfn_28, Jfn_29, Jfn_30, Jfn_31, Jfn_32, Jfn_33, Jfn_34, Jfn_35, Jfn_36, Jfn_37, Jfn_38, Jfn_39, Jfn_40, Jfn_43, Jfn_44, Jfn_45, Jfn_46, Jfn_47, Jfn_48, Jfn_41, Jfn_42, Jpr_0, Jpr_1, Jpr_2, Jpr_3, Jpr_4, Jpr_5, Jpr_11, Jpr_6, Jpr_7, Jpr_8, Jpr_9, Jpr_10, Jpr_12, Jpr_13, Jpr_14, Jpr_15, Jpr_16, Jpr_17, Jpr_18, Jpr_19, Jpr_22, Jpr_23, Jpr_24, Jpr_25, Jpr_26, Jpr_27, Jpr_28, Jfn_49, Jfn_50, Jfn_51, Jfn_52, Jpr_31, Jfn_53, Jfn_54, Jfn_55, Jfn_56, Jfn_57, Jfn_58, Jpr_33, Jpr_34, Jpr_35, Jpr_36, Jpr_37, Jpr_38, Jpr_39, Jpr_40, Jpr_41, Jpr_42, Jpr_20, Jpr_21]
  intro hg w
  have hn := hg.1
  refine ⟨fun h => ldE_long h, fun h64 => ?_⟩
  rw [ldE_small h64]
  refine ⟨by omega, fun _ => rfl, fun h0 => ⟨by omega, fun _ => rfl, fun hr0 => ⟨fun _ => rfl, fun hrp => ⟨by omega, by omega, by omega, fun _ => rfl, fun hrl => ⟨hn, .zero R, fun j a b => by omega, ?_⟩⟩⟩⟩⟩
  have hrp' := Decidable.not_not.1 hrp
  have t : Top R n := ⟨by omega, by omega, hr0, hrp'⟩
  intro k hk hkn hrk hpk
  refine ⟨fun hlt => ?_, fun hge => ⟨fun j a b => by omega, ?_⟩⟩
  · have inc : RowOk R k → (0 < k → Opn R n k → Opn R n (R k 0)) → (-9223372036854775808 ≤ k + 1 ∧ k + 1 ≤ 9223372036854775807) ∧ 0 ≤ k + 1 ∧ k + 1 ≤ n ∧ RowsOk R (k + 1) ∧ (∀ j : Int, 0 < j → j < k + 1 → Opn R n j → Opn R n (R j 0)) ∧ 0 ≤ n - (k + 1) ∧ n - (k + 1) < n - k :=
      fun h1 h2 => ⟨by omega, by omega, by omega, hrk.next h1, all_next (P := fun j => Opn R n j → Opn R n (R j 0)) (a := 1) hpk h2, by omega, by omega⟩
    refine ⟨fun h4 => ⟨fun h => rfl, fun h => ?_⟩, fun h4 => ?_⟩
    · have h := Decidable.not_not.1 h
      have := inc (row_shut h4 ⟨h.1, h.2.1, h.2.2.1, h.2.2.2.1⟩) (fun _ ho => absurd ho.2.2 h4)
      exact ⟨fun _ => this, fun _ => this⟩
    · refine ⟨fun h1 => ⟨fun h2 => ⟨fun h3 => ⟨fun h5 => ⟨fun h6 => ⟨fun _ => rfl, fun h7 => ?_⟩, fun _ => rfl⟩, fun _ => rfl⟩, fun _ => rfl⟩, fun _ => rfl⟩, fun _ => rfl⟩
      have hro := row_opn h4 ⟨h1, h2, h3, h5, h6, Decidable.not_not.1 h7⟩
      exact ⟨fun h0 => ⟨fun _ => rfl, fun hp => inc hro fun _ _ => Decidable.not_not.1 hp⟩, fun h0 => inc hro fun h => absurd h h0⟩
  · intro k2 hk2 hkn2 hg2
    have hkn' : k = n := by omega
    subst hkn'
    have hown := hrk.own
    refine ⟨fun hlt => ⟨fun h4 => ?_, fun h4 => ?_⟩, fun hge => ⟨fun j a b => by omega, ?_⟩⟩
    · exact ⟨by omega, by omega, by omega, all_next hg2 fun _ ho => absurd ho.2.2 h4, by omega, by omega⟩
    · refine ⟨⟨by omega, by omega⟩, ?_⟩
      rintro _ _ _ _
      have hp := pth_pos (by omega) (show Opn R k k2 from ⟨hk2, hlt, h4⟩)
      have hpl := pthL_len ⟨by omega, by omega⟩ k2 (R := R) (n := k)
      exact ⟨fun _ => rfl, fun h => ⟨by omega, by omega, by omega, fun _ => rfl, fun hz => ⟨by omega, by omega, by omega, all_next hg2 fun _ ho => ⟨ho, lst_mem hp (Decidable.not_not.1 hz)⟩, by omega, by omega⟩⟩⟩
    · intro k3 hk3 hkn3 hg3
      refine ⟨fun hlt => ⟨fun h4 => ?_, fun h4 => ?_⟩, fun hge => w ?_⟩
      · exact ⟨⟨by omega, by omega⟩, hown, fun _ => rfl, fun h => ⟨by omega, by omega, by omega, all_next hg3 fun _ _ => by omega, by omega, by omega⟩⟩
      · exact ⟨by omega, by omega, by omega, all_next hg3 fun _ ho => absurd ho.2.2 h4, by omega, by omega⟩
      · have : k2 = k := by omega
        subst this
        exact right_of hg t hrl hrk (fun i ho => hg2 i ho.1 ho.2.1 ho) fun r ho => hg3 r ho.1 (by have := ho.2.1; omega) ho
theorem vLLoadsBad : ∀ ds, Sorts cLoadsBad.sorts ds → tLLoadsBad.vc (J N) ds := by
  refine all_t fun R => all_i fun n => all_i fun x => all_i fun a => all_i fun b => all_n ?_
  set_option linter.unusedSimpArgs false in
  simp only [tLLoadsBad, Tree.vc, PE.den, E.den, dens, BO.ev, List.getElem?_cons_zero, List.getElem?_cons_succ, List.cons_append, List.nil_append, Option.some.injEq, D.i.injEq, D.t.injEq, exists_eq_left', exists_const, forall_const, forall_eq', one_ne, one_eq, min_i64, max_i64, min_u8, max_u8, min_u16, max_u16, tn2, tn3, tn5, act0, act1, act2, and_true, true_and, Jfn_0, Jfn_1, Jfn_2, Jfn_3, Jfn_4, Jfn_5, Jfn_6, Jfn_7, Jfn_8, Jfn_9, Jfn_10, Jfn_11, Jfn_12, Jfn_13, Jfn_14, Jfn_15, Jfn_16, Jfn_17, Jfn_18, Jfn_19, Jfn_20, Jfn_21, Jfn_22, Jfn_23, Jfn_24, Jfn_25, Jfn_26, Jfn_27, Jfn_28, Jfn_29, Jfn_30, Jfn_31, Jfn_32, Jfn_33, Jfn_34, Jfn_35, Jfn_36, Jfn_37, Jfn_38, Jfn_39, Jfn_40, Jfn_43, Jfn_44, Jfn_45, Jfn_46, Jfn_47, Jfn_48, Jfn_41, Jfn_42, Jpr_0, Jpr_1, Jpr_2, Jpr_3, Jpr_4, Jpr_5, Jpr_11, Jpr_6, Jpr_7, Jpr_8, Jpr_9, Jpr_10, Jpr_12, Jpr_13, Jpr_14, Jpr_15, Jpr_16, Jpr_17, Jpr_18, Jpr_19, Jpr_22, Jpr_23, Jpr_24, Jpr_25, Jpr_26, Jpr_27, Jpr_28, Jfn_49, Jfn_50, Jfn_51, Jfn_52, Jpr_31, Jfn_53, Jfn_54, Jfn_55, Jfn_56, Jfn_57, Jfn_58, Jpr_33, Jpr_34, Jpr_35, Jpr_36, Jpr_37, Jpr_38, Jpr_39, Jpr_40, Jpr_41, Jpr_42, Jpr_20, Jpr_21]
  intro _ _ _ _ _
  have h0 : ldE n ≠ 0 := by unfold ldE; split <;> decide
  exact ⟨fun _ => trivial, fun _ => ⟨fun h => h trivial, fun _ => ⟨fun h => h (by rw [if_neg (fun x => x h0)] ), fun _ => ⟨fun _ => trivial, fun h => absurd (Decidable.not_not.1 h) h0⟩⟩⟩⟩
theorem vLLoadsOk : ∀ ds, Sorts cLoadsOk.sorts ds → tLLoadsOk.vc (J N) ds := by
  refine all_t fun R => all_i fun n => all_i fun x => all_i fun a => all_i fun b => all_n ?_
  set_option linter.unusedSimpArgs false in
  simp only [tLLoadsOk, Tree.vc, PE.den, E.den, dens, BO.ev, List.getElem?_cons_zero, List.getElem?_cons_succ, List.cons_append, List.nil_append, Option.some.injEq, D.i.injEq, D.t.injEq, exists_eq_left', exists_const, forall_const, forall_eq', one_ne, one_eq, min_i64, max_i64, min_u8, max_u8, min_u16, max_u16, tn2, tn3, tn5, act0, act1, act2, and_true, true_and, Jfn_0, Jfn_1, Jfn_2, Jfn_3, Jfn_4, Jfn_5, Jfn_6, Jfn_7, Jfn_8, Jfn_9, Jfn_10, Jfn_11, Jfn_12, Jfn_13, Jfn_14, Jfn_15, Jfn_16, Jfn_17, Jfn_18, Jfn_19, Jfn_20, Jfn_21, Jfn_22, Jfn_23, Jfn_24, Jfn_25, Jfn_26, Jfn_27, Jfn_28, Jfn_29, Jfn_30, Jfn_31, Jfn_32, Jfn_33, Jfn_34, Jfn_35, Jfn_36, Jfn_37, Jfn_38, Jfn_39, Jfn_40, Jfn_43, Jfn_44, Jfn_45, Jfn_46, Jfn_47, Jfn_48, Jfn_41, Jfn_42, Jpr_0, Jpr_1, Jpr_2, Jpr_3, Jpr_4, Jpr_5, Jpr_11, Jpr_6, Jpr_7, Jpr_8, Jpr_9, Jpr_10, Jpr_12, Jpr_13, Jpr_14, Jpr_15, Jpr_16, Jpr_17, Jpr_18, Jpr_19, Jpr_22, Jpr_23, Jpr_24, Jpr_25, Jpr_26, Jpr_27, Jpr_28, Jfn_49, Jfn_50, Jfn_51, Jfn_52, Jpr_31, Jfn_53, Jfn_54, Jfn_55, Jfn_56, Jfn_57, Jfn_58, Jpr_33, Jpr_34, Jpr_35, Jpr_36, Jpr_37, Jpr_38, Jpr_39, Jpr_40, Jpr_41, Jpr_42, Jpr_20, Jpr_21]
  intro _ wR hx ha hb
  refine ⟨fun _ => trivial, fun _ => ?_⟩
  rintro T w hR _ _ _ _
  have hn1 := w.n1
  have hn2 := w.n64
  have esv := sv_eq hR
  refine ⟨by omega, by omega, fun q hq => ⟨fun h => hq.2 esv h, fun _ => ?_⟩⟩
  rintro _ _ _ _ _ _ _ _ R' _ _ _ _ _ _ hR'
  have hA := ag_of w hR
  have eN := hA.doN x a b
  have aT := hA.doT w x a b
  have w' : Wf (doT T n x a b) (doN T n x a b) := doT_wf w
  rw [← eN] at hR' ⊢
  have hR2 : RefOf R' (doT T n x a b) (doN T n x a b) := fun r h0 h1 c hc => (hR' r h0 h1 c hc).trans (aT r h0 h1 c (by omega)).symm
  have hA' := ag_of w' hR2
  have hn3 := w'.n1
  have hn4 := w'.n64
  refine ⟨fun _ => ⟨fun _ => ⟨w', ?_⟩, fun h => h (hA.doE w _ _ _)⟩, fun h => h (hA.doR _ _ _)⟩
  rintro _ _ _ _
  refine ⟨hA'.wf w', ?_⟩
  rintro _ _ _ _
  refine ⟨by omega, by omega, by omega, by omega, fun q hq => ⟨fun _ => trivial, fun h => ?_⟩⟩
  exact hq.2 ⟨rfl, sv_eq hR2⟩ h
end Go.Proofs.Ytafipmoglaepcaa.Ac

namespace Go.Proofs.Ytafipmoglaepcaa.Ac
open Go Go.Sx
variable {N : Nat}

/-! ### The rows that were taken -/

theorem sv6 (T : Tb) {k : Int} (h : 0 ≤ k) : tupd (tupd (tupd (tupd (tupd (tupd (svT T k) k 0 (T k 0)) k 1 (T k 1)) k 2 (T k 2)) k 3 (T k 3)) k 4 (T k 4)) k 5 0 = svT T (k + 1) := by
  rw [svT_next T h]
  funext r c
  unfold tupd
  split
  · rename_i e; unfold svT; rw [if_neg (by omega)]
  · rfl
theorem sv6_0 (T : Tb) : tupd (tupd (tupd (tupd (tupd (tupd (fun _ _ => 0) 0 0 (T 0 0)) 0 1 (T 0 1)) 0 2 (T 0 2)) 0 3 (T 0 3)) 0 4 (T 0 4)) 0 5 0 = svT T 1 := by
  have := sv6 T (k := 0) (by omega)
  rw [svT_zero] at this
  exact this
theorem sv_sh (R : Tb) (n : Int) : Sh (svT R n) R n := ⟨fun _ a b => svT_at a b (by omega), fun _ a b => svT_at a b (by omega), fun _ a b => svT_at a b (by omega)⟩
theorem sv_5 (R : Tb) (n r : Int) : svT R n r 5 = 0 := by unfold svT; rw [if_neg (by omega)]
theorem Sh.good {S R : Tb} {n i : Int} (h : Sh S R n) : good S n i ↔ good R n i := by unfold Ac.good pthL; rw [h.opn, h.pathF]
theorem sv_top {R : Tb} {n : Int} (h1 : 1 ≤ n) (h2 : n ≤ 64) (h4 : R 0 4 = 0) (h0 : R 0 0 = -1) : Top (svT R n) n := ⟨h1, h2, by rw [svT_at (by omega) (by omega) (by omega)]; exact h4, by rw [svT_at (by omega) (by omega) (by omega)]; exact h0⟩
theorem opens_shape {A B : Tb} (h : Shape A B) (n k : Int) : opens A n k = opens B n k := by
  unfold opens
  exact sumN_congr fun j _ => ite_iff h.opn _ _

/-- What is known of the table behind the walk. -/
structure Walked (R S : Tb) (n : Int) : Prop where
  top : Top (svT R n) n
  eq : S = wlk (svT R n) n 0
  own : OwnRng R n

section
variable {R S : Tb} {n : Int} (h : Walked R S n)
include h
theorem Walked.shape : Shape S (svT R n) := by rw [h.eq]; exact wlk_shape _ _ _
theorem Walked.col {r : Int} {c : Nat} (h0 : 0 ≤ r) (h1 : r < n) (hc : c < 5) : S r c = R r c := by
  rw [h.eq, wlk_ne _ _ _ _ (by omega), svT_at h0 h1 hc]
theorem Walked.opn {i : Int} : Opn S n i ↔ Opn R n i := h.shape.opn.trans (sv_sh R n).opn
theorem Walked.sh : Sh S R n := ⟨fun _ a b => h.col a b (by omega), fun _ a b => h.col a b (by omega), fun _ a b => h.col a b (by omega)⟩
theorem Walked.ownS : OwnRng S n := fun r a b => by rw [h.col a b (by omega)]; exact h.own r a b
theorem Walked.all (hz : size (gdT (svT R n) n) n 0 - opens S n n = 0) : ∀ i, Opn R n i → Ac.good R n i := by
  have e := opens_shape h.shape n n
  have := (reached h.top).1 (by omega)
  exact fun i hi => (sv_sh R n).good.1 (this i ((sv_sh R n).opn.2 hi))
theorem Walked.zero (hg : ∀ i, Opn R n i → Ac.good R n i) : size (gdT (svT R n) n) n 0 - opens S n n = 0 := by
  have e := opens_shape h.shape n n
  have := (reached h.top).2 fun i hi => (sv_sh R n).good.2 (hg i ((sv_sh R n).opn.1 hi))
  omega
variable (hg : ∀ i, Opn R n i → Ac.good R n i)
include hg
theorem Walked.wt : Wt S n := by
  have : Wt (svT R n) n := wt_of h.top fun i hi => (sv_sh R n).good.2 (hg i ((sv_sh R n).opn.1 hi))
  exact h.shape.wt this
theorem Walked.five {r : Int} (h0 : 0 ≤ r) (h1 : r < n) : S r 5 = if Opn S n r then S r 2 else 0 := by
  have w := gd_wt h.top
  have e : S r 5 = if 5 = 5 ∧ 0 ∈ path (gdT (svT R n) n) n r then svT R n r 2 else svT R n r 5 := by rw [h.eq]; rfl
  rw [h.col h0 h1 (c := 2) (by omega), e, sv_5, svT_at h0 h1 (by omega)]
  by_cases ho : Opn S n r
  · have hgr : Opn (gdT (svT R n) n) n r := gd_opn.2 ((sv_sh R n).good.2 (hg r (h.opn.1 ho)))
    rw [if_pos ho, if_pos ⟨rfl, path_root w r hgr⟩]
  · rw [if_neg ho, if_neg]
    rintro ⟨_, hm⟩
    by_cases hgr : Opn (gdT (svT R n) n) n r
    · exact ho (h.opn.2 ((sv_sh R n).opn.1 (gd_opn.1 hgr).1))
    · rw [path_not hgr] at hm; cases hm
theorem Walked.sum {r : Int} (h0 : 0 ≤ r) (h1 : r < n) : smT S n n r 5 = allR R n r := smT_all (h.wt hg) h.sh (fun _ a b => h.five hg a b) h0 h1
theorem Walked.wtk (k : Int) : Wt (smT S n k) n := (smT_shape S n k).wt (h.wt hg)
/-- A place on the path: its sum fits. -/
theorem Walked.rng {X : Tb} {k q : Int} (hk : 0 ≤ k) (hkn : k < n) (hX : SmAt X (smT S n k) n k q) (hq : Opn X n q) :
    -9223372036854775808 ≤ X q 5 + X k 2 ∧ X q 5 + X k 2 ≤ 9223372036854775807 := by
  have w := h.wtk hg k
  have hq' : Opn (smT S n k) n q := hX.shape.opn.1 hq
  have e5 : X q 5 = smT S n k q 5 := by rw [hX.2, if_neg (fun x => x.2.2.1 (by rw [path_open w hq']; exact List.mem_cons_self))]
  have e2 : X k 2 = R k 2 := by rw [hX.2, if_neg (fun x => by omega), smT_ne _ _ _ _ (by omega), h.col hk hkn (by omega)]
  have h1 := smT_rng (r := q) h.ownS hk (by omega)
  have h2 := h.five hg hq.1 hq.2.1
  have h3 := h.own k hk hkn
  have h4 := h.ownS q hq.1 hq.2.1
  have hn := h.top.n64
  rw [e5, e2]
  split at h2 <;> omega
theorem Walked.less {X : Tb} {k q : Int} (hX : SmAt X (smT S n k) n k q) (hq : Opn X n q) : (meas (smT S n k) n (X q 0) : Int) < meas (smT S n k) n q := by
  rw [(hX.shape q).1]
  have := meas_lt (h.wtk hg k) (hX.shape.opn.1 hq)
  omega
end

theorem vLdBad (hN : 65 ≤ N) : ∀ ds, Sorts cLdBad.sorts ds → tLdBad.vc (J N) ds := by
  refine all_t fun R => all_i fun n => all_n ?_
  set_option linter.unusedSimpArgs false in
  simp only [tLdBad, Tree.vc, PE.den, E.den, dens, BO.ev, List.getElem?_cons_zero, List.getElem?_cons_succ, List.cons_append, List.nil_append, Option.some.injEq, D.i.injEq, D.t.injEq, exists_eq_left', exists_const, forall_const, forall_eq', one_ne, one_eq, min_i64, max_i64, min_u8, max_u8, min_u16, max_u16, tn2, tn3, tn5, act0, act1, act2, and_true, true_and, Jfn_0, Jfn_1, Jfn_2, Jfn_3, Jfn_4, Jfn_5, Jfn_6, Jfn_7, Jfn_8, Jfn_9, Jfn_10, Jfn_11, Jfn_12, Jfn_13, Jfn_14, Jfn_15, Jfn_16, Jfn_17, Jfn_18, Jfn_19, Jfn_20, Jfn_21, Jfn_22, Jfn_23, Jfn_24, Jfn_25, Jfn_26, Jfn_27, Jfn_28, Jfn_29, Jfn_30, Jfn_31, Jfn_32, Jfn_33, Jfn_34, Jfn_35, Jfn_36, Jfn_37, Jfn_38, Jfn_39, Jfn_40, Jfn_43, Jfn_44, Jfn_45, Jfn_46, Jfn_47, Jfn_48, Jfn_41, Jfn_42, Jpr_0, Jpr_1, Jpr_2, Jpr_3, Jpr_4, Jpr_5, Jpr_11, Jpr_6, Jpr_7, Jpr_8, Jpr_9, Jpr_10, Jpr_12, Jpr_13, Jpr_14, Jpr_15, Jpr_16, Jpr_17, Jpr_18, Jpr_19, Jpr_22, Jpr_23, Jpr_24, Jpr_25, Jpr_26, Jpr_27, Jpr_28, Jfn_49, Jfn_50, Jfn_51, Jfn_52, Jpr_31, Jfn_53, Jfn_54, Jfn_55, Jfn_56, Jfn_57, Jfn_58, Jpr_33, Jpr_34, Jpr_35, Jpr_36, Jpr_37, Jpr_38, Jpr_39, Jpr_40, Jpr_41, Jpr_42, Jpr_20, Jpr_21]
  intro hg w
  have hn := hg.1
  refine ⟨fun h => ldE_long h, fun h64 => ?_⟩
  rw [ldE_small h64]
  refine (fun key : (0 < n → RowOk R 0 → _) => ⟨fun hpos => ⟨fun h4 => ⟨fun _ => rfl, fun h => key hpos (row_shut h4 ⟨(Decidable.not_not.1 h).1, (Decidable.not_not.1 h).2.1, (Decidable.not_not.1 h).2.2.1, (Decidable.not_not.1 h).2.2.2.1⟩)⟩, fun h4 => ⟨fun _ => rfl, fun h1 => ⟨fun _ => rfl, fun h2 => ⟨fun _ => rfl, fun h3 => ⟨fun _ => rfl, fun h5 => ⟨fun _ => rfl, fun h6 => ⟨fun _ => rfl, fun h7 => key hpos (row_opn h4 (by omega))⟩⟩⟩⟩⟩⟩⟩, ?_⟩) ?_
  · intro hpos hr0
    refine ⟨by omega, (sv6_0 R).symm, fun r a b => by rw [show r = 0 by omega]; exact hr0, ?_⟩
    rintro _ k hk hkn rfl hrk
    refine ⟨fun hlt => ⟨by omega, ?_⟩, fun hge => ⟨fun _ => rfl, fun _ => ⟨fun _ => rfl, fun ho0 => ⟨by omega, fun _ => rfl, fun hol => ⟨by omega, fun _ => rfl, fun hpp => ?_⟩⟩⟩⟩⟩
    · have inc : RowOk R k → k + 1 ≤ 1000000 ∧ (-9223372036854775808 ≤ k + 1 ∧ k + 1 ≤ 9223372036854775807) ∧ 1 ≤ k + 1 ∧ k + 1 ≤ n ∧
          svT R (k + 1) = tupd (tupd (tupd (tupd (tupd (tupd (svT R k) k 0 (R k 0)) k 1 (R k 1)) k 2 (R k 2)) k 3 (R k 3)) k 4 (R k 4)) k 5 0 ∧ RowsOk R (k + 1) ∧ 0 ≤ n - (k + 1) ∧ n - (k + 1) < n - k :=
        fun h => ⟨by omega, by omega, by omega, by omega, (sv6 R (by omega)).symm, hrk.next h, by omega, by omega⟩
      refine ⟨fun h4 => ⟨fun h => rfl, fun h => inc (row_shut h4 ⟨(Decidable.not_not.1 h).1, (Decidable.not_not.1 h).2.1, (Decidable.not_not.1 h).2.2.1, (Decidable.not_not.1 h).2.2.2.1⟩)⟩, fun h4 => ?_⟩
      exact ⟨fun _ => rfl, fun h1 => ⟨fun _ => rfl, fun h2 => ⟨fun _ => rfl, fun h3 => ⟨fun _ => rfl, fun h5 => ⟨fun _ => rfl, fun h6 => ⟨fun _ => rfl, fun h7 => inc (row_opn h4 (by omega))⟩⟩⟩⟩⟩⟩
    have hkn' : k = n := by omega
    subst hkn'
    have hop : ∀ {i}, Opn (svT R k) k i ↔ Opn R k i := (sv_sh R k).opn
    have hro : R 0 4 = 0 := (hop.1 (Decidable.not_not.1 ho0)).2.2
    have hrp : R 0 0 = -1 := by
      have := Decidable.not_not.1 hpp
      rw [svT_at (by omega) (by omega) (by omega)] at this; exact this
    have hrl : R (k - 1) 4 = 0 := (hop.1 (Decidable.not_not.1 hol)).2.2
    have t : Top R k := ⟨by omega, by omega, hro, hrp⟩
    have hT := sv_top (by omega) (by omega) hro hrp
    have w0 := gd_wt hT
    have hh := high_ok (i := 0) w0
    have hsz := size_le (i := 0) w0
    refine ⟨hT, gd_opn.2 (good_root hT), by omega, by omega, ?_⟩
    rintro _ _ rfl rfl
    have hown := hrk.own
    have hW : Walked R (wlk (svT R k) k 0) k := ⟨hT, rfl, hown⟩
    generalize wlk (svT R k) k 0 = S at hW ⊢
    refine ⟨by omega, by rw [opens_0]; omega, ?_⟩
    rintro _ j hj hjn rfl
    have ho := opens_rng (R := S) (n := k) j.toNat
    rw [show ((j.toNat : Nat) : Int) = j by omega] at ho
    refine ⟨fun hlt => ⟨fun hjo => ?_, fun hjo => ?_⟩, fun hge => ?_⟩
    · rw [opens_step hj, if_pos hjo]
      exact ⟨by omega, by omega, by omega, by omega, by omega, by omega, by omega⟩
    · rw [opens_step hj, if_neg hjo]
      exact ⟨by omega, by omega, by omega, by omega, by omega, by omega⟩
    have hjn' : j = k := by omega
    subst hjn'
    refine ⟨fun _ => rfl, fun hz => ⟨smT_0 S j, ?_⟩⟩
    have hgood := hW.all (Decidable.not_not.1 hz)
    have wS := hW.wt hgood
    rintro _ i hi hin rfl
    refine ⟨fun hlt => ⟨SmAt.first _ _ _, ?_⟩, fun hge => ?_⟩
    · intro X q hX
      refine ⟨fun hq => ⟨fun hne => ?_, fun hne => ?_⟩, fun hq => ?_⟩
      · have hq' := hX.shape.opn.1 hq
        have := hW.less hgood hX hq
        refine ⟨hq.1, hq.2.1, hW.rng hgood hi hlt hX hq, ?_, by omega, by omega⟩
        rw [(hX.shape q).1]
        exact hX.next (hW.wtk hgood i) hq' hne
      · have e := Decidable.not_not.1 hne
        subst e
        have hq' := hX.shape.opn.1 hq
        have := hW.less hgood hX hq
        refine ⟨hq.1, hq.2.1, ?_, by omega, by omega⟩
        rw [(hX.shape q).1]
        exact hX.skip (hW.wtk hgood q) hq'
      · exact ⟨by omega, by omega, by omega, (hX.last wS hi (fun x => hq (hX.shape.opn.2 ((smT_shape S j i).opn.2 x)))).symm, by omega, by omega⟩
    have hi' : i = j := by omega
    subst hi'
    refine ⟨by omega, fun b hb => ⟨fun _ => rfl, fun hb0 => w ?_⟩⟩
    refine right_of hg t hrl hrk hgood fun r hr => ?_
    have : ¬ ∃ r, 0 ≤ r ∧ r < i ∧ smT S i i r 3 < smT S i i r 5 := fun h => hb.2 h hb0
    by_cases e : allR R i r ≤ R r 3
    · exact e
    · exact absurd ⟨r, hr.1, hr.2.1, by rw [hW.sum hgood hr.1 hr.2.1, smT_ne _ _ _ _ (by omega), hW.col hr.1 hr.2.1 (by omega)]; omega⟩ this
  · exact fun _ => rfl
theorem vLdOk (hN : 65 ≤ N) : ∀ ds, Sorts cLdOk.sorts ds → tLdOk.vc (J N) ds := by
  refine all_t fun R => all_i fun n => all_n ?_
  set_option linter.unusedSimpArgs false in
  simp only [tLdOk, Tree.vc, PE.den, E.den, dens, BO.ev, List.getElem?_cons_zero, List.getElem?_cons_succ, List.cons_append, List.nil_append, Option.some.injEq, D.i.injEq, D.t.injEq, exists_eq_left', exists_const, forall_const, forall_eq', one_ne, one_eq, min_i64, max_i64, min_u8, max_u8, min_u16, max_u16, tn2, tn3, tn5, act0, act1, act2, and_true, true_and, Jfn_0, Jfn_1, Jfn_2, Jfn_3, Jfn_4, Jfn_5, Jfn_6, Jfn_7, Jfn_8, Jfn_9, Jfn_10, Jfn_11, Jfn_12, Jfn_13, Jfn_14, Jfn_15, Jfn_16, Jfn_17, Jfn_18, Jfn_19, Jfn_20, Jfn_21, Jfn_22, Jfn_23, Jfn_24, Jfn_25, Jfn_26, Jfn_27, Jfn_28, Jfn_29, Jfn_30, Jfn_31, Jfn_32, Jfn_33, Jfn_34, Jfn_35, Jfn_36, Jfn_37, Jfn_38, Jfn_39, Jfn_40, Jfn_43, Jfn_44, Jfn_45, Jfn_46, Jfn_47, Jfn_48, Jfn_41, Jfn_42, Jpr_0, Jpr_1, Jpr_2, Jpr_3, Jpr_4, Jpr_5, Jpr_11, Jpr_6, Jpr_7, Jpr_8, Jpr_9, Jpr_10, Jpr_12, Jpr_13, Jpr_14, Jpr_15, Jpr_16, Jpr_17, Jpr_18, Jpr_19, Jpr_22, Jpr_23, Jpr_24, Jpr_25, Jpr_26, Jpr_27, Jpr_28, Jfn_49, Jfn_50, Jfn_51, Jfn_52, Jpr_31, Jfn_53, Jfn_54, Jfn_55, Jfn_56, Jfn_57, Jfn_58, Jpr_33, Jpr_34, Jpr_35, Jpr_36, Jpr_37, Jpr_38, Jpr_39, Jpr_40, Jpr_41, Jpr_42, Jpr_20, Jpr_21]
  intro hg w
  have hn1 := w.n1
  have hn2 := w.n64
  have t := right_top w
  have hrow := right_rows w
  have hgood := right_good w
  have hpeak := right_peak w
  have hown := hrow.own
  have h0 := row_opn' t.root (hrow 0 (by omega) (by omega))
  refine ⟨fun h => by omega, fun _ => ⟨fun _ => ⟨fun h4 => absurd t.root h4, fun _ => ⟨fun h => by omega, fun _ => ⟨fun h => by omega, fun _ => ⟨fun h => by omega, fun _ => ⟨fun h => by omega, fun _ => ⟨fun h => by omega, fun _ => ⟨fun h => by omega, fun _ =>
    ⟨by omega, (sv6_0 R).symm, fun r a b => hrow r a (by omega), ?_⟩⟩⟩⟩⟩⟩⟩⟩, fun h => by omega⟩⟩
  rintro _ k hk hkn rfl hrk
  refine ⟨fun hlt => ⟨by omega, ?_⟩, fun hge => ?_⟩
  · have inc : k + 1 ≤ 1000000 ∧ (-9223372036854775808 ≤ k + 1 ∧ k + 1 ≤ 9223372036854775807) ∧ 1 ≤ k + 1 ∧ k + 1 ≤ n ∧
        svT R (k + 1) = tupd (tupd (tupd (tupd (tupd (tupd (svT R k) k 0 (R k 0)) k 1 (R k 1)) k 2 (R k 2)) k 3 (R k 3)) k 4 (R k 4)) k 5 0 ∧ RowsOk R (k + 1) ∧ 0 ≤ n - (k + 1) ∧ n - (k + 1) < n - k :=
      ⟨by omega, by omega, by omega, by omega, (sv6 R (by omega)).symm, fun r a b => hrow r a (by omega), by omega, by omega⟩
    refine ⟨fun h4 => ⟨fun h => h ?_, fun _ => inc⟩, fun h4 => ?_⟩
    · have := row_shut' h4 (hrow k (by omega) hlt)
      exact ⟨this.1, this.2.1, this.2.2.1, this.2.2.2, by rw [if_neg h4], by omega⟩
    · have := row_opn' h4 (hrow k (by omega) hlt)
      exact ⟨fun h => by omega, fun _ => ⟨fun h => by omega, fun _ => ⟨fun h => by omega, fun _ => ⟨fun h => by omega, fun _ => ⟨fun h => by omega, fun _ => ⟨fun h => by omega, fun _ => inc⟩⟩⟩⟩⟩⟩
  have hkn' : k = n := by omega
  subst hkn'
  have hT := sv_top hn1 hn2 t.root t.rootp
  have hop : ∀ {i}, Opn (svT R k) k i ↔ Opn R k i := (sv_sh R k).opn
  have w0 := gd_wt hT
  have hh := high_ok (i := 0) w0
  have hsz := size_le (i := 0) w0
  refine ⟨fun h => by omega, fun _ => ⟨fun h => h (hop.2 ⟨by omega, by omega, t.root⟩), fun _ => ⟨by omega, fun h => h (hop.2 ⟨by omega, by omega, right_last w⟩), fun _ => ⟨by omega, fun h => h (by rw [svT_at (by omega) (by omega) (by omega)]; exact t.rootp), fun _ =>
    ⟨hT, gd_opn.2 (good_root hT), by omega, by omega, ?_⟩⟩⟩⟩⟩
  rintro _ _ rfl rfl
  have hW : Walked R (wlk (svT R k) k 0) k := ⟨hT, rfl, hown⟩
  generalize wlk (svT R k) k 0 = S at hW ⊢
  have hz := hW.zero hgood
  have wS := hW.wt hgood
  refine ⟨by omega, by rw [opens_0]; omega, ?_⟩
  rintro _ j hj hjn rfl
  have ho := opens_rng (R := S) (n := k) j.toNat
  rw [show ((j.toNat : Nat) : Int) = j by omega] at ho
  refine ⟨fun hlt => ⟨fun hjo => ?_, fun hjo => ?_⟩, fun hge => ?_⟩
  · rw [opens_step hj, if_pos hjo]
    exact ⟨by omega, by omega, by omega, by omega, by omega, by omega, by omega⟩
  · rw [opens_step hj, if_neg hjo]
    exact ⟨by omega, by omega, by omega, by omega, by omega, by omega⟩
  have hjn' : j = k := by omega
  subst hjn'
  refine ⟨fun h => h hz, fun _ => ⟨smT_0 S j, ?_⟩⟩
  rintro _ i hi hin rfl
  refine ⟨fun hlt => ⟨SmAt.first _ _ _, ?_⟩, fun hge => ?_⟩
  · intro X q hX
    refine ⟨fun hq => ⟨fun hne => ?_, fun hne => ?_⟩, fun hq => ?_⟩
    · have hq' := hX.shape.opn.1 hq
      have := hW.less hgood hX hq
      refine ⟨hq.1, hq.2.1, hW.rng hgood hi hlt hX hq, ?_, by omega, by omega⟩
      rw [(hX.shape q).1]
      exact hX.next (hW.wtk hgood i) hq' hne
    · have e := Decidable.not_not.1 hne
      subst e
      have hq' := hX.shape.opn.1 hq
      have := hW.less hgood hX hq
      refine ⟨hq.1, hq.2.1, ?_, by omega, by omega⟩
      rw [(hX.shape q).1]
      exact hX.skip (hW.wtk hgood q) hq'
    · exact ⟨by omega, by omega, by omega, (hX.last wS hi (fun x => hq (hX.shape.opn.2 ((smT_shape S j i).opn.2 x)))).symm, by omega, by omega⟩
  have hi' : i = j := by omega
  subst hi'
  refine ⟨by omega, fun b hb => ⟨fun h => ?_, fun _ => ⟨rfl, ?_, ?_⟩⟩⟩
  · obtain ⟨r, a, c, d⟩ := hb.1 h
    rw [hW.sum hgood a c, smT_ne _ _ _ _ (by omega), hW.col a c (by omega)] at d
    have := hpeak r a c
    omega
  · refine Ag.wf (A := exT R i) (fun r a c d hd => ?_) w
    by_cases e : d = 5
    · subst e; rw [exT_5, hW.sum hgood a c]
    · rw [exT_ne _ _ _ e, smT_ne _ _ _ _ e, hW.col a c (by omega)]
  · intro r a c d hd
    rw [smT_ne _ _ _ _ (by omega), hW.col a c hd]
end Go.Proofs.Ytafipmoglaepcaa.Ac
