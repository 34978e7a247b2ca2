/-
  The conditions of Move, Close and the law's steps hold. Conditions: none.
-/
import Derived.Test.YtafipmoglaepcaaAcV2
import Derived.Test.YtafipmoglaepcaaAcSums
namespace Go.Proofs.Ytafipmoglaepcaa.Ac
open Go Go.Sx
variable {N : Nat}

theorem vWalk : ∀ ds, Sorts (cWalk 21).sorts ds → tWalk.vc (J N) ds := by
  refine all_t fun T => all_i fun n => all_i fun i => all_i fun c => all_n ?_
  set_option linter.unusedSimpArgs false in
  simp only [tWalk, Tree.vc, PE.den, E.den, dens, BO.ev, List.getElem?_cons_zero, List.getElem?_cons_succ, List.cons_append, List.nil_append, Option.some.injEq, D.i.injEq, D.t.injEq, exists_eq_left', exists_const, forall_const, forall_eq', one_ne, one_eq, min_i64, max_i64, min_u8, max_u8, min_u16, max_u16, tn2, tn3, tn5, act0, act1, act2, and_true, true_and, Jfn_0, Jfn_1, Jfn_2, Jfn_3, Jfn_4, Jfn_5, Jfn_6, Jfn_7, Jfn_8, Jfn_9, Jfn_10, Jfn_11, Jfn_12, Jfn_13, Jfn_14, Jfn_15, Jfn_16, Jfn_17, Jfn_18, Jfn_19, Jfn_20, Jfn_21, Jfn_22, Jfn_23, Jfn_24, Jfn_25, Jfn_26, Jfn_27, Jfn_28, Jfn_29, Jfn_30, Jfn_31, Jfn_32, Jfn_33, Jfn_34, Jfn_35, Jfn_36, Jfn_37, Jfn_38, Jfn_39, Jpr_0, Jpr_1, Jpr_2, Jpr_3, Jpr_4, Jpr_5, Jpr_6, Jpr_7, Jpr_8, Jpr_9, Jpr_10, Jpr_20, Jpr_21]
  intro w hi hc hs hh
  have hn := w.n1
  have hn2 := w.n64
  have hsz := size_le (i := i) w.toWt
  have hp := size_part w.toWt hi
  refine ⟨by omega, by omega, by simp [part, sumN], ?_⟩
  rintro _ k hk hkn rfl
  have hst := part_step (T := T) (n := n) (i := i) hk
  have hm := part_mono (i := i) w.toWt (n - k).toNat k hk
  rw [show k + ((n - k).toNat : Int) = n by omega, hp] at hm
  refine ⟨fun hlt => ?_, fun hge => ?_⟩
  · have hm2 := part_mono (i := i) w.toWt (n - (k + 1)).toNat (k + 1) (by omega)
    rw [show k + 1 + ((n - (k + 1)).toNat : Int) = n by omega, hp] at hm2
    refine ⟨fun k0 => ⟨fun ko => ⟨fun e => ?_, fun e => ?_⟩, fun ko => ?_⟩, fun k0 => ?_⟩
    · rw [if_pos ⟨ko, k0, e⟩] at hst
      have h1 := high_ok (i := k) w.toWt
      have h2 := high_kid w.toWt ko
      rw [e] at h2
      exact ⟨by omega, by omega, by omega, by omega, by omega, by omega, by omega, by omega, by omega⟩
    · rw [if_neg (fun x => e x.2.2)] at hst
      exact ⟨by omega, by omega, by omega, by omega, by omega, by omega⟩
    · rw [if_neg (fun x => ko x.1)] at hst
      exact ⟨by omega, by omega, by omega, by omega, by omega, by omega⟩
    · rw [if_neg (fun x => k0 x.2.1)] at hst
      exact ⟨by omega, by omega, by omega, by omega, by omega, by omega⟩
  · have : k = n := by omega
    subst this
    rw [hp]

theorem trim_step {T : Tb} {m : Int} (h : 1 ≤ m) : trimN T m = if T (m - 1) 4 ≠ 0 then trimN T (m - 1) else m := by
  unfold trimN
  rw [show m.toNat = (m - 1).toNat + 1 by omega]
  simp only [trimF]
  rw [show (((m - 1).toNat : Nat) : Int) = m - 1 by omega, show m - 1 + 1 = m by omega]
/-- The greatest height is at most N. -/
theorem vClose (hN : 65 ≤ N) : ∀ ds, Sorts cClose.sorts ds → tClose.vc (J N) ds := by
  refine all_t fun T => all_i fun n => all_i fun i => all_n ?_
  set_option linter.unusedSimpArgs false in
  simp only [tClose, Tree.vc, PE.den, E.den, dens, BO.ev, List.getElem?_cons_zero, List.getElem?_cons_succ, List.cons_append, List.nil_append, Option.some.injEq, D.i.injEq, D.t.injEq, exists_eq_left', exists_const, forall_const, forall_eq', one_ne, one_eq, min_i64, max_i64, min_u8, max_u8, min_u16, max_u16, tn2, tn3, tn5, act0, act1, act2, and_true, true_and, Jfn_0, Jfn_1, Jfn_2, Jfn_3, Jfn_4, Jfn_5, Jfn_6, Jfn_7, Jfn_8, Jfn_9, Jfn_10, Jfn_11, Jfn_12, Jfn_13, Jfn_14, Jfn_15, Jfn_16, Jfn_17, Jfn_18, Jfn_19, Jfn_20, Jfn_21, Jfn_22, Jfn_23, Jfn_24, Jfn_25, Jfn_26, Jfn_27, Jfn_28, Jfn_29, Jfn_30, Jfn_31, Jfn_32, Jfn_33, Jfn_34, Jfn_35, Jfn_36, Jfn_37, Jfn_38, Jfn_39, Jpr_0, Jpr_1, Jpr_2, Jpr_3, Jpr_4, Jpr_5, Jpr_6, Jpr_7, Jpr_8, Jpr_9, Jpr_10, Jpr_20, Jpr_21]
  intro w
  have hn := w.n1
  have hn2 := w.n64
  by_cases h : Opn T n i
  · refine ⟨fun e => (e h).elim, fun _ => ⟨fun h0 => ?_, fun h0 => ?_⟩⟩
    · have hE : clE T n i = 2 := by unfold clE; rw [if_neg (fun x => x h), if_pos h0]
      simp [clT, clN, hE]
    · have hsz := size_le (i := i) w.toWt
      have hh := high_ok (i := i) w.toWt
      refine ⟨by omega, by omega, fun h1 => ?_, fun h1 => ⟨h.1, h.2.1, fun h2 => ?_, fun h2 => ⟨hn, Int.le_refl _, fun m hm1 hm2 e => ?_⟩⟩⟩
      · have := (size_kid w.toWt h).1 h1
        simp [clT, clN, clE, h, h0, this]
      · simp [clT, clN, clE, h, h0, h2]
      · have hk : ¬ hasKid T n i := fun x => h1 ((size_kid w.toWt h).2 x)
        have h2 := Decidable.not_not.1 h2
        have hE : clE T n i = 0 := by
          unfold clE
          rw [if_neg (fun x => x h), if_neg h0, if_neg (fun x => by rcases x with x | x; exact hk x; exact x h2)]
        have e4 : ∀ r, tupd (tupd (tupd (tupd (tupd T i 0 (-1)) i 1 0) i 2 0) i 3 0) i 4 1 r 4 = row6 T i (-1) 0 0 0 1 0 r 4 := fun r => (tupd_ne (by omega)).symm
        rw [e4]
        have hst := trim_step (T := row6 T i (-1) 0 0 0 1 0) hm1
        refine ⟨by omega, by omega, by omega, by omega, fun hc => ⟨by omega, ?_, by omega, ?_⟩, fun hc => ⟨by omega, ?_, ?_, hE⟩⟩
        · by_cases hm : m = 1
          · subst hm
            rw [show (1 : Int) - 1 = 0 by omega, row6_off (fun x => h0 x.symm), w.root] at hc
            exact (hc rfl).elim
          · omega
        · rw [if_pos hc] at hst
          exact e.trans hst
        · rw [clT, if_pos hE]; rfl
        · rw [if_neg (fun x => x hc)] at hst
          rw [clN, if_pos hE]
          exact e.trans hst
  · refine ⟨fun _ => ?_, fun e => (e h).elim⟩
    simp [clT, clN, clE, h]

theorem lstT_mem (l : List Int) (x : Int) : (∃ j, 0 ≤ j ∧ j < (l.length : Int) ∧ lstT l j 0 = x) ↔ x ∈ l := by
  rw [List.mem_iff_getElem]
  constructor
  · rintro ⟨j, h0, h1, h2⟩
    refine ⟨j.toNat, by omega, ?_⟩
    rw [lstT, if_pos ⟨h0, rfl⟩, List.getD_eq_getElem?_getD, List.getElem?_eq_getElem (by omega)] at h2
    exact h2
  · rintro ⟨j, h0, h1⟩
    refine ⟨j, by omega, by omega, ?_⟩
    rw [lstT, if_pos ⟨by omega, rfl⟩, List.getD_eq_getElem?_getD, Int.toNat_natCast, List.getElem?_eq_getElem h0]
    exact h1
theorem FullAt.next {T : Tb} {n p o a q : Int} (w : Wt T n) (h : FullAt T n p o a q) (hq : Opn T n q) (hn : ¬ (a > 0 ∧ a > room T q ∧ q ∉ path T n o)) : FullAt T n p o a (T q 0) := by
  have hp := path_open w hq
  refine ⟨fun r hr => h.1 r (by rw [hp]; exact List.mem_cons_of_mem _ hr), fun r hr hr2 => ?_⟩
  by_cases e : r = q
  · rw [e]; exact hn
  · exact h.2 r hr (by rw [hp, List.mem_cons]; exact fun x => by rcases x with x | x; exact e x; exact hr2 x)
theorem SubAt.shape {S T : Tb} {n o a q : Int} (h : SubAt S T n o a q) : Shape S T := fun r => by
  by_cases hr : r ∈ path T n q
  · exact ⟨(h.1 r hr).2 0, (h.1 r hr).2 4⟩
  · rw [h.2 r hr 0, h.2 r hr 4]; exact subP_shape T n o a r
theorem SubAt.last {S T : Tb} {n o a q : Int} (h : SubAt S T n o a q) (hq : ¬ Opn T n q) : S = subP T n o a := by
  funext r c
  exact h.2 r (by rw [path_not hq]; exact List.not_mem_nil) c
theorem SubAt.next {S T : Tb} {n o a q : Int} (w : Wt T n) (h : SubAt S T n o a q) (hq : Opn T n q) : SubAt (tupd S q 5 (S q 5 - a)) T n o a (T q 0) := by
  have hp := path_open w hq
  refine ⟨fun r hr => ?_, fun r hr c => ?_⟩
  · have hm : r ∈ path T n q := by rw [hp]; exact List.mem_cons_of_mem _ hr
    have hne : r ≠ q := fun e => not_mem_par w hq (e ▸ hr)
    refine ⟨(h.1 r hm).1, fun c => ?_⟩
    rw [tupd_ne (fun x => hne x.1)]; exact (h.1 r hm).2 c
  · by_cases e : r = q
    · subst e
      have hm : r ∈ path T n r := by rw [hp]; exact List.mem_cons_self
      obtain ⟨h1, h2⟩ := h.1 r hm
      by_cases e5 : c = 5
      · subst e5; rw [tupd_same, subP_5, if_pos h1, h2]
      · rw [tupd_ne (fun x => e5 x.2), subP_off _ _ _ _ _ e5, h2]
    · rw [tupd_ne (fun x => e x.1)]
      exact h.2 r (by rw [hp, List.mem_cons]; exact fun x => by rcases x with x | x; exact e x; exact hr x) c
theorem vMove : ∀ ds, Sorts cMove.sorts ds → tMove.vc (J N) ds := by
  refine all_t fun T => all_i fun n => all_i fun x => all_i fun p => all_n ?_
  set_option linter.unusedSimpArgs false in
  simp only [tMove, Tree.vc, PE.den, E.den, dens, BO.ev, List.getElem?_cons_zero, List.getElem?_cons_succ, List.cons_append, List.nil_append, Option.some.injEq, D.i.injEq, D.t.injEq, exists_eq_left', exists_const, forall_const, forall_eq', one_ne, one_eq, min_i64, max_i64, min_u8, max_u8, min_u16, max_u16, tn2, tn3, tn5, act0, act1, act2, and_true, true_and, Jfn_0, Jfn_1, Jfn_2, Jfn_3, Jfn_4, Jfn_5, Jfn_6, Jfn_7, Jfn_8, Jfn_9, Jfn_10, Jfn_11, Jfn_12, Jfn_13, Jfn_14, Jfn_15, Jfn_16, Jfn_17, Jfn_18, Jfn_19, Jfn_20, Jfn_21, Jfn_22, Jfn_23, Jfn_24, Jfn_25, Jfn_26, Jfn_27, Jfn_28, Jfn_29, Jfn_30, Jfn_31, Jfn_32, Jfn_33, Jfn_34, Jfn_35, Jfn_36, Jfn_37, Jfn_38, Jfn_39, Jpr_0, Jpr_1, Jpr_2, Jpr_3, Jpr_4, Jpr_5, Jpr_6, Jpr_7, Jpr_8, Jpr_9, Jpr_10, Jpr_20, Jpr_21]
  intro w
  by_cases hx : Opn T n x
  rotate_left
  · refine ⟨fun _ => ?_, fun e => (e hx).elim⟩
    simp [mvT, mvE, hx]
  refine ⟨fun e => (e hx).elim, fun _ => ?_⟩
  by_cases hp : Opn T n p
  rotate_left
  · refine ⟨fun _ => ?_, fun e => (e hp).elim⟩
    simp [mvT, mvE, hp]
  refine ⟨fun e => (e hp).elim, fun _ => ⟨fun h0 => ?_, fun h0 => ⟨hx.1, hx.2.1, fun q1 e1 => ⟨fun o1 => ⟨fun eq => ?_, fun ne => ?_⟩, fun o1 => ?_⟩⟩⟩⟩
  · have hE : mvE T n x p = 2 := by unfold mvE; rw [if_neg (fun y => by rcases y with y | y; exact y hx; exact y hp), if_pos h0]
    simp [mvT, hE]
  · have hm : x ∈ path T n p := by rw [e1, eq, path_open w.toWt hx]; exact List.mem_cons_self
    simp [mvT, mvE, hx, hp, h0, hm]
  · have hl := meas_lt w.toWt o1
    refine ⟨o1.1, o1.2.1, ?_, by omega, by omega⟩
    rw [e1, path_open w.toWt o1, List.mem_cons]
    exact ⟨fun y => y.resolve_left fun z => ne z.symm, .inr⟩
  rintro _ _ rfl rfl
  have hn : x ∉ path T n p := by rw [e1, path_not o1]; exact List.not_mem_nil
  have hpar := w.par x hx h0
  have hlen := path_len w.toWt (T x 0)
  refine ⟨⟨fun r hr => hr, fun r hr hr2 => (hr2 hr).elim⟩, fun q2 f2 => ⟨fun o2 => ?_, fun o2 => ?_⟩⟩
  · have hl := meas_lt w.toWt o2
    refine ⟨fun ha => ⟨o2.1, o2.2.1, room_fits w o2, fun hr => ⟨by omega, by omega, fun b hb => ⟨fun hb0 => ?_, fun hb0 => ?_⟩⟩, fun hr => ?_⟩, fun ha => ?_⟩
    · rw [lstT_mem] at hb
      have hno : q2 ∉ path T n (T x 0) := fun y => (hb.2 y) hb0
      have hf : tooFull T n p (T x 0) (T x 5) := ⟨q2, f2.1 q2 (by rw [path_open w.toWt o2]; exact List.mem_cons_self), ha, hr, hno⟩
      simp [mvT, mvE, hx, hp, h0, hn, hf]
    · rw [lstT_mem] at hb
      exact ⟨f2.next w.toWt o2 (fun y => y.2.2 (hb.1 hb0)), by omega, by omega⟩
    · exact ⟨f2.next w.toWt o2 (fun y => hr y.2.1), by omega, by omega⟩
    · exact ⟨o2.1, o2.2.1, f2.next w.toWt o2 (fun y => ha y.1), by omega, by omega⟩
  have hfull : ¬ tooFull T n p (T x 0) (T x 5) := by
    rintro ⟨q, hq, hq2⟩
    exact f2.2 q hq (by rw [path_not o2]; exact List.not_mem_nil) hq2
  have hE : mvE T n x p = 0 := by
    unfold mvE
    rw [if_neg (fun y => by rcases y with y | y; exact y hx; exact y hp), if_neg h0, if_neg hn, if_neg hfull]
  refine ⟨⟨fun r hr => ⟨hr, fun _ => rfl⟩, fun r hr c => by unfold subP; rw [if_neg (fun y => hr y.1)]⟩, fun S q3 s3 => ⟨fun o3 => ?_, fun o3 => ?_⟩⟩
  · have o3' := s3.shape.opn.1 o3
    have hl := meas_lt w.toWt o3'
    have hm : q3 ∈ path T n q3 := by rw [path_open w.toWt o3']; exact List.mem_cons_self
    have hw := w.rng q3 o3'
    have hw2 := w.rng x hx
    have h5 := (s3.1 q3 hm).2 5
    rw [(s3.shape q3).1]
    exact ⟨o3.1, o3.2.1, by omega, s3.next w.toWt o3', by omega, by omega⟩
  · have eS := s3.last (fun y => o3 (s3.shape.opn.2 y))
    subst eS
    obtain ⟨wS, hpath, hs, h5, hoff⟩ := mvT_parts w hE rfl
    refine ⟨wS, fun r hr => ?_, by rw [mvT, if_pos hE], hE⟩
    rw [hpath] at hr
    have hw := w.rng r (mem_path w.toWt p hr).1
    have hw2 := w.rng x hx
    rw [h5]
    split <;> omega
theorem vDoes : ∀ ds, Sorts cDoes.sorts ds → tDoes.vc (J N) ds := by
  refine all_t fun T => all_i fun n => all_i fun k => all_i fun a => all_i fun b => all_n ?_
  set_option linter.unusedSimpArgs false in
  simp only [tDoes, Tree.vc, PE.den, E.den, dens, BO.ev, List.getElem?_cons_zero, List.getElem?_cons_succ, List.cons_append, List.nil_append, Option.some.injEq, D.i.injEq, D.t.injEq, exists_eq_left', exists_const, forall_const, forall_eq', one_ne, one_eq, min_i64, max_i64, min_u8, max_u8, min_u16, max_u16, tn2, tn3, tn5, act0, act1, act2, and_true, true_and, Jfn_0, Jfn_1, Jfn_2, Jfn_3, Jfn_4, Jfn_5, Jfn_6, Jfn_7, Jfn_8, Jfn_9, Jfn_10, Jfn_11, Jfn_12, Jfn_13, Jfn_14, Jfn_15, Jfn_16, Jfn_17, Jfn_18, Jfn_19, Jfn_20, Jfn_21, Jfn_22, Jfn_23, Jfn_24, Jfn_25, Jfn_26, Jfn_27, Jfn_28, Jfn_29, Jfn_30, Jfn_31, Jfn_32, Jfn_33, Jfn_34, Jfn_35, Jfn_36, Jfn_37, Jfn_38, Jfn_39, Jpr_0, Jpr_1, Jpr_2, Jpr_3, Jpr_4, Jpr_5, Jpr_6, Jpr_7, Jpr_8, Jpr_9, Jpr_10, Jpr_20, Jpr_21]
  intro _ hk
  have ek : k.tmod 8 = k % 8 := Int.tmod_eq_emod_of_nonneg hk.1
  rw [ek]
  refine ⟨fun h0 => ?_, fun h0 => ⟨fun h1 => ?_, fun h1 => ⟨fun h2 => ?_, fun h2 => ⟨fun h3 => ?_, fun h3 => ⟨fun h4 => ?_, fun h4 => ?_⟩⟩⟩⟩⟩
  · rintro _ _ _ _ rfl rfl rfl rfl; simp [doT, doN, doR, doE, h0]
  · rintro _ _ _ rfl rfl rfl; simp [doT, doN, doR, doE, h1]
  · rintro _ _ rfl rfl; simp [doT, doN, doR, doE, h2]
  · rintro _ _ rfl rfl; simp [doT, doN, doR, doE, h3]
  · rintro _ _ rfl rfl; simp [doT, doN, doR, doE, h4]
  · rintro _ _ rfl rfl; simp [doT, doN, doR, doE, h0, h1, h2, h3, h4]
theorem wrap_small {l : Int} (h : 0 ≤ l ∧ l ≤ 65535) : 0 ≤ (IntKind.i64.wrap l).tmod 4097 ∧ (IntKind.i64.wrap l).tmod 4097 ≤ 4096 := by
  have e : IntKind.i64.wrap l = l := by
    simp only [IntKind.wrap, IntKind.signed, IntKind.bits]
    simp
    omega
  rw [e, Int.tmod_eq_emod_of_nonneg h.1]
  omega
theorem vPlayed : ∀ ds, Sorts cPlayed.sorts ds → tPlayed.vc (J N) ds := by
  refine all_i fun l => all_t fun L => all_i fun m => all_n ?_
  set_option linter.unusedSimpArgs false in
  simp only [tPlayed, Tree.vc, PE.den, E.den, dens, BO.ev, List.getElem?_cons_zero, List.getElem?_cons_succ, List.cons_append, List.nil_append, Option.some.injEq, D.i.injEq, D.t.injEq, exists_eq_left', exists_const, forall_const, forall_eq', one_ne, one_eq, min_i64, max_i64, min_u8, max_u8, min_u16, max_u16, tn2, tn3, tn5, act0, act1, act2, and_true, true_and, Jfn_0, Jfn_1, Jfn_2, Jfn_3, Jfn_4, Jfn_5, Jfn_6, Jfn_7, Jfn_8, Jfn_9, Jfn_10, Jfn_11, Jfn_12, Jfn_13, Jfn_14, Jfn_15, Jfn_16, Jfn_17, Jfn_18, Jfn_19, Jfn_20, Jfn_21, Jfn_22, Jfn_23, Jfn_24, Jfn_25, Jfn_26, Jfn_27, Jfn_28, Jfn_29, Jfn_30, Jfn_31, Jfn_32, Jfn_33, Jfn_34, Jfn_35, Jfn_36, Jfn_37, Jfn_38, Jfn_39, Jpr_0, Jpr_1, Jpr_2, Jpr_3, Jpr_4, Jpr_5, Jpr_6, Jpr_7, Jpr_8, Jpr_9, Jpr_10, Jpr_20, Jpr_21]
  intro hl ha
  have hw := wrap_small hl
  generalize hlim : (IntKind.i64.wrap l).tmod 4097 = lim at *
  obtain ⟨h0, h1, h2⟩ := ha
  refine ⟨hw.1, hw.2, h0, rfl, rfl, ?_⟩
  rintro _ _ k hk hkm rfl rfl
  refine ⟨fun hlt => ⟨st_wf hw L _, h2 k hk hlt, ?_⟩, fun hge => ?_⟩
  · rintro _ _ _ _ rfl rfl rfl rfl
    have e : (k + 1).toNat = k.toNat + 1 := by omega
    have ek : ((k.toNat : Nat) : Int) = k := by omega
    refine ⟨by omega, by omega, by omega, ?_, ?_, by omega, by omega⟩
    · rw [e]; simp only [st, ek]
    · rw [e]; simp only [st, ek]
  · have : k = m := by omega
    subst this
    exact ⟨rfl, rfl⟩
end Go.Proofs.Ytafipmoglaepcaa.Ac
