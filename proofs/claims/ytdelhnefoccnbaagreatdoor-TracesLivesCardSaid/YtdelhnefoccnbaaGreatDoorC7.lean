/-
  The formulas of the contracts hold: an index, arenas, renaming. Conditions: none; nothing here speaks of a program.
-/
import Derived.Test.YtdelhnefoccnbaaGreatDoorC6
import Derived.Test.YtdelhnefoccnbaaGreatDoorC4
namespace Go.Tt
open Go Go.Sx Go.Lib Go.Sf
variable {N : Nat}
theorem vIdx : ∀ ds, Sorts cIdx.sorts ds → tIdx.vc (TI N) ds := by
  refine all_t fun T => all_i fun n => all_i fun x => all_i fun m => all_n ?_
  set_option linter.unusedSimpArgs false in
  simp (config := { maxSteps := 10000000 }) only [tIdx, el0, pl1, el2, el3, ν, κ, ο, γ, ω, ρ, χ, π, δ, ξ, υ, α, μ, β, η, τ, sln, fn1, fn2, z0, Tree.vc, PE.den, E.den, dens, BO.ev, List.getElem?_cons_zero, List.getElem?_cons_succ, List.cons_append, List.nil_append, Option.some.injEq, D.i.injEq, D.t.injEq, exists_eq_left', exists_const, forall_const, forall_eq', one_ne, one_eq, zero_ne, zero_eq, min_i64, max_i64, min_u8, max_u8, and_true, true_and, Decidable.not_not, P85, P86]
  intro h0 h1 h2
  refine ⟨fun j j0 j1 => by omega, fun i i0 i1 hI => ⟨fun hi => ⟨by omega, fun hx => ⟨by omega, by omega, .inr ⟨i0, hi, hx.symm, hI⟩⟩, fun hx => ⟨by omega, by omega, by omega, fun j j0 j1 => ?_, by omega, by omega⟩⟩, fun hi => ⟨by omega, .inl ⟨rfl, ?_⟩⟩⟩⟩
  · by_cases hj : j = i
    · subst hj; exact fun e => hx e.symm
    · exact hI j j0 (by omega)
  · have : i = n := by omega
    subst this; exact hI
theorem vHas : ∀ ds, Sorts cHas.sorts ds → tHas.vc (TI N) ds := by
  refine all_i fun L => all_i fun A => all_i fun K => all_t fun T => all_i fun n => all_i fun a => all_n ?_
  set_option linter.unusedSimpArgs false in
  simp (config := { maxSteps := 10000000 }) only [tHas, el0, pl1, pl4, pl5, el6, ql7, ν, κ, ο, γ, ω, ρ, χ, π, δ, ξ, υ, α, μ, β, η, τ, sln, fn1, fn2, z0, Tree.vc, PE.den, E.den, dens, BO.ev, List.getElem?_cons_zero, List.getElem?_cons_succ, List.cons_append, List.nil_append, Option.some.injEq, D.i.injEq, D.t.injEq, exists_eq_left', exists_const, forall_const, forall_eq', one_ne, one_eq, zero_ne, zero_eq, min_i64, max_i64, min_u8, max_u8, and_true, true_and, Decidable.not_not, P45, P50, P51]
  intro h0 h1 hT _ _ _
  have nx : ∀ i, 0 ≤ i → ¬ Made T i a → ¬ (T i 0 = 1 ∧ T i 1 = a) → ¬ Made T (i + 1) a := fun i i0 h g e => ((made_next i0).1 e).elim h g
  refine ⟨fun ⟨j, j0, j1, _⟩ => by omega, fun i i0 i1 hM => ⟨fun hi => ⟨fun hk => ⟨fun ha => ?_, fun ha => ⟨by omega, by omega, by omega, nx i i0 hM fun g => ha g.2, by omega, by omega⟩⟩, fun hk => ⟨by omega, by omega, by omega, nx i i0 hM fun g => hk g.1, by omega, by omega⟩⟩, fun hi => ?_⟩⟩
  · rw [if_pos i0]
    exact ⟨fun _ => ⟨i, i0, hi, hk, ha⟩, fun _ => by decide⟩
  · have : i = n := by omega
    subst this
    exact ⟨fun h => absurd rfl h, fun h => absurd h hM⟩
theorem vFnd : ∀ ds, Sorts cFnd.sorts ds → tFnd.vc (TI N) ds := by
  refine all_t fun T => all_i fun m => all_i fun n => all_i fun k => all_i fun a => all_i fun b => all_n ?_
  set_option linter.unusedSimpArgs false in
  simp (config := { maxSteps := 10000000 }) only [tFnd, el6, ql50, ν, κ, ο, γ, ω, ρ, χ, π, δ, ξ, υ, α, μ, β, η, τ, sln, fn1, fn2, z0, Tree.vc, PE.den, E.den, dens, BO.ev, List.getElem?_cons_zero, List.getElem?_cons_succ, List.cons_append, List.nil_append, Option.some.injEq, D.i.injEq, D.t.injEq, exists_eq_left', exists_const, forall_const, forall_eq', one_ne, one_eq, zero_ne, zero_eq, min_i64, max_i64, min_u8, max_u8, and_true, true_and, Decidable.not_not, P45, P53, P95]
  intro h0 h1 h2 hT
  have nx : ∀ i, 0 ≤ i → ¬ Has T i k a b → ¬ (T i 0 = k ∧ T i 1 = a ∧ T i 2 = b) → ¬ Has T (i + 1) k a b := fun i i0 h g e => ((has_next i0).1 e).elim h g
  refine ⟨fun ⟨j, j0, j1, _⟩ => by omega, fun i i0 i1 hM => ⟨fun hi => ⟨by omega, fun hk => ⟨fun ha => ⟨fun hb => ⟨by omega, by omega, .inr ⟨i0, hi, hk, ha, hb, hM⟩⟩, fun hb => ⟨by omega, by omega, by omega, nx i i0 hM fun g => hb g.2.2, by omega, by omega⟩⟩, fun ha => ⟨by omega, by omega, by omega, nx i i0 hM fun g => ha g.2.1, by omega, by omega⟩⟩, fun hk => ⟨by omega, by omega, by omega, nx i i0 hM fun g => hk g.1, by omega, by omega⟩⟩, fun hi => ⟨by omega, .inl ⟨rfl, ?_⟩⟩⟩⟩
  have : i = n := by omega
  subst this
  exact hM
theorem ren_0 {T : Tb} {n f t : Int} : RenI T n f t 0 T := fun r r0 _ c _ => by rw [if_neg (by omega)]
theorem ren_step {T T' : Tb} {n f t i : Int} (h : RenI T n f t i T') (i0 : 0 ≤ i) (hi : i < n) :
    (T' i 1 = f → RenI T n f t (i + 1) (tupd T' i 1 t)) ∧ (¬ T' i 1 = f → RenI T n f t (i + 1) T') := by
  have e := h i i0 hi 1 (by decide)
  rw [if_neg (by omega)] at e
  rw [e]
  constructor
  · intro hf r r0 hr c hc
    have := h r r0 hr c hc
    by_cases hri : r = i
    · subst hri
      by_cases hc1 : c = 1
      · subst hc1
        simp only [tupd, and_self, if_true]
        rw [if_pos ⟨by omega, trivial, hf⟩]
      · simp only [tupd, hc1, and_false, if_false, false_and] at this ⊢
        exact this
    · simp only [tupd, hri, false_and, if_false]
      rw [this]
      by_cases hlt : r < i
      · simp only [hlt, true_and, show r < i + 1 by omega]
      · simp only [hlt, false_and, if_false, show ¬ r < i + 1 by omega]
  · intro hf r r0 hr c hc
    rw [h r r0 hr c hc]
    by_cases hri : r = i
    · subst hri
      rw [if_neg (by omega)]
      by_cases hc1 : c = 1
      · rw [if_neg fun hh => hf hh.2.2]
      · rw [if_neg fun hh => hc1 hh.2.1]
    · by_cases hlt : r < i
      · simp only [hlt, true_and, show r < i + 1 by omega]
      · simp only [hlt, false_and, if_false, show ¬ r < i + 1 by omega]
theorem ren_ok {T T' : Tb} {n f t : Int} (h : RenI T n f t n T') (hT : TbOk T n) (ht : slen t ≤ 100000) : TbOk T' n := by
  have e : ∀ r, 0 ≤ r → r < n → ∀ c, c < 8 → c ≠ 1 → T' r c = T r c := fun r r0 hr c hc hc1 => by
    rw [h r r0 hr c hc, if_neg fun hh => hc1 hh.2.1]
  refine ⟨fun r r0 hr => ?_, fun r r0 hr => ⟨?_, ?_⟩⟩
  · rw [e r r0 hr 0 (by decide) (by decide), e r r0 hr 3 (by decide) (by decide), e r r0 hr 4 (by decide) (by decide), e r r0 hr 5 (by decide) (by decide), e r r0 hr 6 (by decide) (by decide), e r r0 hr 7 (by decide) (by decide)]
    exact hT.1 r r0 hr
  · rw [h r r0 hr 1 (by decide)]
    split
    · exact ht
    · exact (hT.2 r r0 hr).1
  · rw [e r r0 hr 2 (by decide) (by decide)]; exact (hT.2 r r0 hr).2
theorem ren_err {L A K : Int} {T : Tb} {n f t st ee e : Int} (hc : ChkP L A K T n st ee) (he : e = renE T n f t ee) (h0 : e ≠ 0) : TbOk (fun _ _ => 0) 0 ∧ RenP L A K T n f t 0 0 0 (fun _ _ => 0) 0 e :=
  ⟨⟨fun r r0 hr => by omega, fun r r0 hr => by omega⟩, st, ee, hc, he, fun _ => ⟨rfl, rfl, rfl, rfl⟩, fun h => absurd h h0⟩
theorem renE_e {T : Tb} {n f t e : Int} (h : ¬ e = 0) : e = renE T n f t e := by unfold renE; rw [if_pos h]
theorem renE_6 {T : Tb} {n f t : Int} (h : nameF t = 0) : 6 = renE T n f t 0 := by unfold renE; rw [if_neg (by decide), if_pos h]
theorem renE_4 {T : Tb} {n f t : Int} (h : ¬ nameF t = 0) (h1 : ¬ Made T n f) : 4 = renE T n f t 0 := by unfold renE; rw [if_neg (by decide), if_neg h, if_pos h1]
theorem renE_8 {T : Tb} {n f t : Int} (h : ¬ nameF t = 0) (h1 : Made T n f) (h2 : Made T n t) : 8 = renE T n f t 0 := by unfold renE; rw [if_neg (by decide), if_neg h, if_neg (not_not_intro h1), if_pos h2]
theorem renE_0 {T : Tb} {n f t : Int} (h : ¬ nameF t = 0) (h1 : Made T n f) (h2 : ¬ Made T n t) : 0 = renE T n f t 0 := by unfold renE; rw [if_neg (by decide), if_neg h, if_neg (not_not_intro h1), if_neg h2]
theorem made_n {T : Tb} {n a b : Int} (h : MadeP T n a b) : (b = 0 → ¬ Made T n a) ∧ (¬ b = 0 → Made T n a) := ⟨fun h0 hm => h.2 hm h0, fun h0 => h.1 h0⟩
theorem vRRen : ∀ ds, Sorts cRRen.sorts ds → tRRen.vc (TI N) ds := by
  refine all_i fun L => all_i fun A => all_i fun K => all_t fun T => all_i fun n => all_i fun f => all_i fun t => all_n ?_
  set_option linter.unusedSimpArgs false in
  simp (config := { maxSteps := 10000000 }) only [tRRen, el0, pl1, pl4, pl5, pl8, pl9, pl10, pl11, el12, pl13, ql14, pl15, el16, ql17, ql18, ql19, pl20, el21, ql22, ql23, ν, κ, ο, γ, ω, ρ, χ, π, δ, ξ, υ, α, μ, β, η, τ, sln, fn1, fn2, z0, Tree.vc, PE.den, E.den, dens, BO.ev, List.getElem?_cons_zero, List.getElem?_cons_succ, List.cons_append, List.nil_append, Option.some.injEq, D.i.injEq, D.t.injEq, exists_eq_left', exists_const, forall_const, forall_eq', one_ne, one_eq, zero_ne, zero_eq, min_i64, max_i64, min_u8, max_u8, and_true, true_and, Decidable.not_not, S20, S1001, P44, P45, P50, P89, P92]
  intro h0 h1 hT hL hA hK hf ht st ee _ _ hc
  refine ⟨fun he => ren_err hc (renE_e he) he, fun he => ?_⟩
  subst he
  obtain ⟨n5, _, _, _⟩ := chk_ok hc
  refine ⟨fun h6 => ren_err hc (renE_6 h6) (by decide), fun h6 => ⟨Int.le_refl _, by omega, fun b hb => ⟨fun b0 => ren_err hc (renE_4 h6 ((made_n hb).1 b0)) (by decide), fun b0 d hd => ⟨fun d0 => ren_err hc (renE_8 h6 ((made_n hb).2 b0) ((made_n hd).2 d0)) (by decide), fun d0 => ⟨ren_0, fun i T' i0 i1 hR => ⟨fun hi => ⟨fun hx => ⟨by omega, by omega, by omega, (ren_step hR i0 hi).1 hx, by omega, by omega⟩, fun hx => ⟨by omega, by omega, by omega, (ren_step hR i0 hi).2 hx, by omega, by omega⟩⟩, fun hi => ?_⟩⟩⟩⟩⟩⟩
  have : i = n := by omega
  subst this
  exact ⟨ren_ok hR hT ht, st, 0, hc, renE_0 h6 ((made_n hb).2 b0) ((made_n hd).1 d0), fun h => absurd rfl h, fun _ => ⟨rfl, rfl, rfl, rfl, hR⟩⟩
theorem vRenF : ∀ ds, Sorts cRenF.sorts ds → tRenF.vc (TI N) ds := by
  refine all_i fun L => all_i fun A => all_i fun K => all_t fun T => all_i fun n => all_i fun f => all_i fun t => all_n ?_
  set_option linter.unusedSimpArgs false in
  simp (config := { maxSteps := 10000000 }) only [tRenF, el0, pl1, pl4, pl5, pl8, pl9, pl10, pl11, el12, pl13, ql14, pl15, el16, ql17, ql18, ql19, pl20, el21, ql22, ql23, ν, κ, ο, γ, ω, ρ, χ, π, δ, ξ, υ, α, μ, β, η, τ, sln, fn1, fn2, z0, Tree.vc, PE.den, E.den, dens, BO.ev, List.getElem?_cons_zero, List.getElem?_cons_succ, List.cons_append, List.nil_append, Option.some.injEq, D.i.injEq, D.t.injEq, exists_eq_left', exists_const, forall_const, forall_eq', one_ne, one_eq, zero_ne, zero_eq, min_i64, max_i64, min_u8, max_u8, and_true, true_and, Decidable.not_not, S20, S1001, P44, P45, P50, P89, P92]
  intro h0 h1 hT hL hA hK hf ht st ee _ _ hc
  refine ⟨fun he => ren_err hc (renE_e he) he, fun he => ?_⟩
  subst he
  obtain ⟨n5, _, _, _⟩ := chk_ok hc
  refine ⟨fun h6 => ren_err hc (renE_6 h6) (by decide), fun h6 b hb => ⟨fun b0 => ren_err hc (renE_4 h6 ((made_n hb).1 b0)) (by decide), fun b0 d hd => ⟨fun d0 => ren_err hc (renE_8 h6 ((made_n hb).2 b0) ((made_n hd).2 d0)) (by decide), fun d0 => ⟨ren_0, fun i T' i0 i1 hR => ⟨fun hi => ⟨fun hx => ⟨by omega, by omega, by omega, (ren_step hR i0 hi).1 hx, by omega, by omega⟩, fun hx => ⟨by omega, by omega, by omega, (ren_step hR i0 hi).2 hx, by omega, by omega⟩⟩, fun hi => ?_⟩⟩⟩⟩⟩
  have : i = n := by omega
  subst this
  exact ⟨ren_ok hR hT ht, st, 0, hc, renE_0 h6 ((made_n hb).2 b0) ((made_n hd).1 d0), fun h => absurd rfl h, fun _ => ⟨rfl, rfl, rfl, rfl, hR⟩⟩
theorem vRenN : ∀ ds, Sorts cRenN.sorts ds → tRenN.vc (TI N) ds := by
  refine all_i fun L => all_i fun A => all_i fun K => all_t fun T => all_i fun n => all_i fun f => all_i fun t => all_n ?_
  set_option linter.unusedSimpArgs false in
  simp (config := { maxSteps := 10000000 }) only [tRenN, el0, pl1, pl4, pl5, pl8, pl9, pl10, el12, pl13, ql14, pl15, el16, ql17, ql18, ql19, ν, κ, ο, γ, ω, ρ, χ, π, δ, ξ, υ, α, μ, β, η, τ, sln, fn1, fn2, z0, Tree.vc, PE.den, E.den, dens, BO.ev, List.getElem?_cons_zero, List.getElem?_cons_succ, List.cons_append, List.nil_append, Option.some.injEq, D.i.injEq, D.t.injEq, exists_eq_left', exists_const, forall_const, forall_eq', one_ne, one_eq, zero_ne, zero_eq, min_i64, max_i64, min_u8, max_u8, and_true, true_and, Decidable.not_not, S20, S1001, P44, P45, P50, P92]
  intro h0 h1 hT hL hA hK hf ht hn
  have hn0 : n = 0 := by omega
  subst hn0
  have hz : TbOk (fun _ _ => 0) 0 := ⟨fun r r0 hr => by omega, fun r r0 hr => by omega⟩
  have no : ∀ {a b : Int}, MadeP (fun _ _ => 0) 0 a b → b = 0 := fun h => Classical.byContradiction fun hb => by
    obtain ⟨j, j0, j1, _⟩ := h.1 hb
    omega
  refine ⟨hz, fun st ee _ _ hc0 => ?_⟩
  have hc : ChkP L A K T 0 st ee := chk_eq (fun r r0 hr => by omega) hc0
  refine ⟨fun he => (ren_err hc (renE_e he) he).2, fun he => ?_⟩
  subst he
  refine ⟨fun h6 => (ren_err hc (renE_6 h6) (by decide)).2, fun h6 b hb => ⟨fun _ => (ren_err hc (renE_4 h6 fun ⟨j, j0, j1, _⟩ => by omega) (by decide)).2, fun b0 => absurd (no hb) b0⟩⟩
end Go.Tt
namespace Go.Tt
open Go Go.Sx Go.Lib Go.Sf
variable {N : Nat}
theorem fnd_mk {T : Tb} {n m : Int} {i : Int} (h : FndP T n 4 (T i 1) (T i 2) m) : (m = -1 ∧ mkAt T n i = none) ∨ ∃ k : Nat, m = k ∧ mkAt T n i = some k := by
  rcases h with ⟨h1, h2⟩ | ⟨h0, h1, h2, h3, h4, h5⟩
  · refine .inl ⟨h1, ?_⟩
    unfold mkAt
    rw [List.find?_eq_none]
    intro j hj
    simp only [List.mem_range] at hj
    simp only [decide_eq_true_eq]
    rintro ⟨g1, g2, g3⟩
    exact h2 ⟨j, by omega, by omega, g1, g2, g3⟩
  · obtain ⟨k, rfl⟩ := Int.eq_ofNat_of_zero_le h0
    refine .inr ⟨k, rfl, ?_⟩
    unfold mkAt
    rw [List.find?_range_eq_some]
    refine ⟨by simp [h2, h3, h4], by simp; omega, fun j hj => ?_⟩
    simp only [Bool.not_eq_true', decide_eq_false_iff_not]
    rintro ⟨g1, g2, g3⟩
    exact h5 ⟨j, by omega, by omega, g1, g2, g3⟩
theorem lst_in {U : Tb} {q n : Int} (h : InP U q n) (k : Nat) : k ∈ lst U q ↔ ∃ r, 0 ≤ r ∧ r < q ∧ U r 0 = k := by
  unfold lst
  simp only [List.mem_map, List.mem_range]
  constructor
  · rintro ⟨r, hr, rfl⟩
    have := (h r (by omega) (by omega)).1
    exact ⟨r, by omega, by omega, by omega⟩
  · rintro ⟨r, r0, r1, hr⟩
    obtain ⟨r, rfl⟩ := Int.eq_ofNat_of_zero_le r0
    exact ⟨r, by omega, by omega⟩
theorem bh_0 {U : Tb} {m n : Int} : BhI U 0 m n n := .inr ⟨fun ⟨r, r0, r1, _⟩ => by omega, rfl⟩
theorem bh_next {U : Tb} {j m n b : Int} (h : BhI U j m n b) (j0 : 0 ≤ j) : (U j 0 = m → BhI U (j + 1) m n m) ∧ (¬ U j 0 = m → BhI U (j + 1) m n b) := by
  constructor
  · intro e; exact .inl ⟨⟨j, j0, by omega, e⟩, rfl⟩
  · intro e
    rcases h with ⟨⟨r, r0, r1, hr⟩, h2⟩ | ⟨h1, h2⟩
    · exact .inl ⟨⟨r, r0, by omega, hr⟩, h2⟩
    · refine .inr ⟨fun ⟨r, r0, r1, hr⟩ => ?_, h2⟩
      by_cases hj : r = j
      · subst hj; exact e hr
      · exact h1 ⟨r, r0, by omega, hr⟩
theorem bh_end {T U : Tb} {n q i m b : Int} (h5 : T i 0 = 5) (hU : InP U q n) (hF : FndP T n 4 (T i 1) (T i 2) m) (h : BhI U q m n b) : BhP T n U q i b := by
  unfold BhP bhd
  rw [if_neg (by omega), if_pos h5]
  rcases fnd_mk hF with ⟨h1, h2⟩ | ⟨k, h1, h2⟩
  · rw [h2]
    rcases h with ⟨⟨r, r0, r1, hr⟩, _⟩ | ⟨_, h3⟩
    · have := (hU r r0 r1).1; omega
    · exact h3
  · rw [h2]
    simp only
    rcases h with ⟨⟨r, r0, r1, hr⟩, h3⟩ | ⟨h3, h4⟩
    · rw [if_pos ((lst_in hU k).2 ⟨r, r0, r1, by omega⟩)]; omega
    · rw [if_neg fun hh => ?_]
      · exact h4
      · obtain ⟨r, r0, r1, hr⟩ := (lst_in hU k).1 hh
        exact h3 ⟨r, r0, r1, by omega⟩
theorem gone_tail {T U : Tb} {n q i b0 : Int} (hq : q ≤ 1000) (hU : InP U q n) (hb : BhP T n U q i b0) : BhP T n U q i b0 ∧ (GoI T U i b0 0 fun _ _ => 0) ∧
    ∀ (k b : Int) (f : Int → Nat → Int), 0 ≤ k → k ≤ q → BhP T n U q i b → GoI T U i b k f →
      (k < q → 0 ≤ U k 0 ∧ U k 0 < n ∧
        (T (U k 0) 1 = T i 1 → (-9223372036854775808 ≤ k + 1 ∧ k + 1 ≤ 9223372036854775807) ∧ 0 ≤ k + 1 ∧ k + 1 ≤ q ∧ GoI T U i b (k + 1) (tupd f k 0 (if b < U k 0 then 1 else 0)) ∧ 0 ≤ q - (k + 1) ∧ q - (k + 1) < q - k) ∧
        (¬ T (U k 0) 1 = T i 1 → (-9223372036854775808 ≤ k + 1 ∧ k + 1 ≤ 9223372036854775807) ∧ 0 ≤ k + 1 ∧ k + 1 ≤ q ∧ GoI T U i b (k + 1) (tupd f k 0 0) ∧ 0 ≤ q - (k + 1) ∧ q - (k + 1) < q - k)) ∧
      (¬ k < q → GonP T n U q i f) := by
  refine ⟨hb, fun r r0 r1 => by omega, fun k b f k0 k1 hB hG => ⟨fun hk => ?_, fun hk r r0 r1 => ?_⟩⟩
  · have hu := hU k k0 hk
    have nx : ∀ y : Int, (y ≠ 0 ↔ T (U k 0) 1 = T i 1 ∧ b < U k 0) → GoI T U i b (k + 1) (tupd f k 0 y) := fun y hy r r0 r1 => by
      by_cases hr : r = k
      · subst hr; simp only [tupd, and_self, if_true]; exact hy
      · simp only [tupd, hr, false_and, if_false]; exact hG r r0 (by omega)
    refine ⟨hu.1, hu.2, fun ha => ⟨by omega, by omega, by omega, nx _ ?_, by omega, by omega⟩, fun ha => ⟨by omega, by omega, by omega, nx _ ?_, by omega, by omega⟩⟩
    · by_cases hlt : b < U k 0
      · rw [if_pos hlt]; exact ⟨fun _ => ⟨ha, hlt⟩, fun _ => by decide⟩
      · rw [if_neg hlt]; exact ⟨fun h => absurd rfl h, fun h => absurd h.2 hlt⟩
    · exact ⟨fun h => absurd rfl h, fun h => absurd h.1 ha⟩
  · rw [hG r r0 (by omega), goes, decide_eq_true_eq, hB]
    have := (hU r r0 r1).1
    have e : (((U r 0).toNat : Nat) : Int) = U r 0 := by omega
    rw [e]
theorem vGone : ∀ ds, Sorts cGone.sorts ds → tGone.vc (TI N) ds := by
  refine all_t fun T => all_i fun n => all_t fun U => all_i fun q => all_i fun i => all_n ?_
  set_option linter.unusedSimpArgs false in
  simp (config := { maxSteps := 10000000 }) only [tGone, pl1, el2, el6, pl24, pl51, ql52, el53, el54, ql55, ql56, el57, el58, ql59, ql60, ql61, ν, κ, ο, γ, ω, ρ, χ, π, δ, ξ, υ, α, μ, β, η, τ, sln, fn1, fn2, z0, Tree.vc, PE.den, E.den, dens, BO.ev, List.getElem?_cons_zero, List.getElem?_cons_succ, List.cons_append, List.nil_append, Option.some.injEq, D.i.injEq, D.t.injEq, exists_eq_left', exists_const, forall_const, forall_eq', one_ne, one_eq, zero_ne, zero_eq, min_i64, max_i64, min_u8, max_u8, and_true, true_and, Decidable.not_not, P45, P93, P94, P95, P96, P97, P98]
  intro i0 i1 n1 hT q0 q1 hU
  have none1 : T i 0 = 2 ∨ T i 0 = 6 → BhP T n U q i (-1) := fun h => by unfold BhP bhd; rw [if_pos h]
  refine ⟨by omega, fun h2 => ⟨fun h5 => by omega, fun _ => gone_tail q1 hU (none1 (.inl h2))⟩, fun h2 => ⟨fun h6 => ⟨fun h5 => by omega, fun _ => gone_tail q1 hU (none1 (.inr h6))⟩, fun h6 => ⟨fun h5 => ⟨by omega, by omega, fun m _ _ hF => ⟨bh_0, fun j b j0 j1 hB => ⟨fun hj => ⟨fun e => ⟨by omega, by omega, by omega, (bh_next hB j0).1 e, by omega, by omega⟩, fun e => ⟨by omega, by omega, by omega, (bh_next hB j0).2 e, by omega, by omega⟩⟩, fun hj => ?_⟩⟩⟩, fun h5 => gone_tail q1 hU ?_⟩⟩⟩
  · have : j = q := by omega
    subst this
    exact gone_tail q1 hU (bh_end h5 hU hF hB)
  · unfold BhP bhd; rw [if_neg (by omega), if_neg h5]
theorem lst_eq {l : List Nat} {U : Tb} {q : Int} (h : LstI l U q) : lst U q = l := by
  obtain ⟨h1, h2⟩ := h
  subst h1
  unfold lst
  apply List.ext_getElem?
  intro r
  rw [Int.toNat_natCast, List.getElem?_map]
  by_cases hr : r < l.length
  · have := h2 r l[r] (List.getElem?_eq_getElem hr)
    rw [List.getElem?_range hr, List.getElem?_eq_getElem hr, Option.map_some, this, Int.toNat_natCast]
  · rw [List.getElem?_eq_none (l := l) (by omega), List.getElem?_eq_none (by simp; omega)]; rfl
theorem lst_push {l : List Nat} {U : Tb} {q : Int} (h : LstI l U q) (y : Nat) : LstI (l ++ [y]) (tupd U q 0 y) (q + 1) := by
  obtain ⟨h1, h2⟩ := h
  refine ⟨by simp [h1], fun r k hr => ?_⟩
  by_cases hlt : r < l.length
  · rw [List.getElem?_append_left hlt] at hr
    simp only [tupd, show ¬ (r : Int) = q by omega, false_and, if_false]
    exact h2 r k hr
  · rw [List.getElem?_append_right (by omega)] at hr
    have e : r - l.length = 0 := by
      rcases Nat.eq_zero_or_pos (r - l.length) with h3 | h3
      · exact h3
      · rw [List.getElem?_eq_none (by simp; omega)] at hr; cases hr
    rw [e] at hr
    simp at hr
    subst hr
    simp only [tupd, show (r : Int) = q by omega, and_self, if_true]
theorem rli_in {T : Tb} {n : Int} {i : Nat} {E U : Tb} {q : Int} (h : RLI T n i E U q) (hi : (i : Int) < n) : InP U q n := fun r r0 r1 => by
  obtain ⟨⟨h1, h2⟩, _⟩ := h
  obtain ⟨r, rfl⟩ := Int.eq_ofNat_of_zero_le r0
  have hr : r < (thr T n i).length := by rw [Int.toNat_natCast] at h1; omega
  have := h2 r _ (List.getElem?_eq_getElem (by rw [Int.toNat_natCast]; exact hr))
  have hm := (thr_mem (List.getElem_mem hr)).1
  simp only [Int.toNat_natCast] at this
  omega
theorem rlj_0 {T : Tb} {n : Int} {i : Nat} {E U G : Tb} {q : Int} (h : RLI T n i E U q) : RLJ T n i (tupd E i 0 n) U q G 0 (fun _ _ => 0) 0 := by
  refine ⟨⟨by simp, fun r k hr => by simp at hr⟩, fun x hx => ?_⟩
  rw [if_neg (by simp)]
  by_cases hxi : (x : Int) = i
  · simp only [tupd, hxi, and_self, if_true, Int.toNat_natCast]
    rw [endA_ge (by omega)]
  · simp only [tupd, hxi, false_and, if_false]
    exact h.2 x (by omega)
theorem rlj_next {T : Tb} {n : Int} {i k : Nat} {E U G V E0 : Tb} {q p : Int} (h : RLI T n i E0 U q) (hG : GonP T n U q i G) (hJ : RLJ T n i E U q G k V p) (hk : (k : Int) < q) :
    (G k 0 ≠ 0 → RLJ T n i (tupd E (U k 0) 0 i) U q G ((k : Int) + 1) V p) ∧ (G k 0 = 0 → RLJ T n i E U q G ((k : Int) + 1) (tupd V p 0 (U k 0)) (p + 1)) := by
  have hl := h.1
  have hk' : k < (thr T n i).length := by have := hl.1; rw [Int.toNat_natCast] at this; omega
  obtain ⟨y, hy⟩ : ∃ y, (thr T n i)[k]? = some y := ⟨_, List.getElem?_eq_getElem hk'⟩
  have hUy : U k 0 = y := hl.2 k y (by rw [Int.toNat_natCast]; exact hy)
  have hgo : G k 0 ≠ 0 ↔ goes T n i (thr T n i) y = true := by
    have := hG k (by omega) hk
    rw [lst_eq hl, hUy] at this
    simpa using this
  have htake : (thr T n i).take (k + 1) = (thr T n i).take k ++ [y] := by rw [List.take_add_one, hy]; rfl
  have e1 : ((k : Int) + 1).toNat = k + 1 := by omega
  obtain ⟨j1, j2⟩ := hJ
  simp only [Int.toNat_natCast] at j1 j2
  rw [hUy]
  constructor
  · intro hg
    have hg' := hgo.1 hg
    refine ⟨?_, fun x hx => ?_⟩
    · simp only [e1, Int.toNat_natCast, htake, List.filter_append]
      simpa [hg'] using j1
    · simp only [e1, Int.toNat_natCast, htake, List.mem_append, List.mem_singleton]
      by_cases hxy : x = y
      · subst hxy
        simp only [tupd, and_self, if_true]
        rw [if_pos ⟨.inr trivial, hg'⟩]
      · have : ¬ (x : Int) = y := by omega
        simp only [tupd, this, false_and, if_false, hxy, or_false]
        exact j2 x hx
  · intro hg
    have hg' : goes T n i (thr T n i) y = false := by
      rw [Bool.eq_false_iff]; exact fun hh => (hgo.2 hh) hg
    refine ⟨?_, fun x hx => ?_⟩
    · have := lst_push j1 y
      simp only [e1, Int.toNat_natCast, htake, List.filter_append]
      simpa [hg'] using this
    · simp only [e1, Int.toNat_natCast, htake, List.mem_append, List.mem_singleton]
      by_cases hxy : x = y
      · subst hxy
        rw [if_neg (by rw [hg']; simp), j2 x hx, if_neg (by rw [hg']; simp)]
      · simp only [hxy, or_false]
        exact j2 x hx
theorem rlj_end {T : Tb} {n : Int} {i k : Nat} {E U G V E0 : Tb} {q p : Int} (h : RLI T n i E0 U q) (hJ : RLJ T n i E U q G k V p) (hk : (k : Int) = q) :
    (T i 0 = 3 ∨ T i 0 = 4 → RLI T n ((i : Int) + 1) E (tupd V p 0 i) (p + 1)) ∧ (¬ (T i 0 = 3 ∨ T i 0 = 4) → RLI T n ((i : Int) + 1) E V p) := by
  have hl := h.1.1
  rw [Int.toNat_natCast] at hl
  obtain ⟨j1, j2⟩ := hJ
  have ht : (thr T n i).take k = thr T n i := List.take_of_length_le (by omega)
  simp only [Int.toNat_natCast, ht] at j1 j2
  have hE : ∀ x : Nat, (x : Int) < (i : Int) + 1 → E x 0 = endA T n ((i : Int) + 1).toNat x := fun x hx => by
    rw [succ_toNat, j2 x (by omega)]; rfl
  constructor
  · intro h3
    refine ⟨?_, hE⟩
    have := lst_push j1 i
    rw [succ_toNat]
    simp only [thr, if_pos h3]; exact this
  · intro h3
    refine ⟨?_, hE⟩
    rw [succ_toNat]
    simp only [thr, if_neg h3, List.append_nil]; exact j1
theorem vRLvs : ∀ ds, Sorts (cLvs 11).sorts ds → tRLvs.vc (TI N) ds := by
  refine all_i fun L => all_i fun A => all_i fun K => all_t fun T => all_i fun n => all_n ?_
  set_option linter.unusedSimpArgs false in
  simp (config := { maxSteps := 10000000 }) only [tRLvs, el0, pl1, pl4, pl5, pl20, el21, pl24, pl25, ql26, el27, el32, pl33, pl34, ql36, el42, el62, ql63, el64, ql65, el66, ql67, ν, κ, ο, γ, ω, ρ, χ, π, δ, ξ, υ, α, μ, β, η, τ, sln, fn1, fn2, z0, Tree.vc, PE.den, E.den, dens, BO.ev, List.getElem?_cons_zero, List.getElem?_cons_succ, List.cons_append, List.nil_append, Option.some.injEq, D.i.injEq, D.t.injEq, exists_eq_left', exists_const, forall_const, forall_eq', one_ne, one_eq, zero_ne, zero_eq, min_i64, max_i64, min_u8, max_u8, and_true, true_and, Decidable.not_not, P44, P45, P87, P93, P94, P99, P100, P101]
  intro n0 n1 hT hL hA hK st e _ _ hc
  refine ⟨fun h => ⟨⟨st, hc⟩, fun _ => rfl, fun h0 => absurd h0 h⟩, fun he => ?_⟩
  subst he
  obtain ⟨n5, _, _, _⟩ := chk_ok hc
  refine ⟨by omega, ⟨⟨rfl, fun r k hr => by simp [thr] at hr⟩, fun k hk => by omega⟩, fun i E U q i0 i1 q0 q1 hR => ?_⟩
  obtain ⟨i, rfl⟩ := Int.eq_ofNat_of_zero_le i0
  refine ⟨fun hi => ?_, fun hi => ?_⟩
  · refine ⟨by omega, by omega, rli_in hR hi, fun G hG => ⟨rlj_0 hR, fun k E' V p k0 k1 p0 p1 hJ => ?_⟩⟩
    obtain ⟨k, rfl⟩ := Int.eq_ofNat_of_zero_le k0
    refine ⟨fun hk => ⟨fun hg => ?_, fun hg => ?_⟩, fun hk => ?_⟩
    · have := rli_in hR hi k k0 hk
      exact ⟨this.1, this.2, by omega, by omega, by omega, by omega, (rlj_next hR hG hJ hk).1 hg, by omega, by omega⟩
    · exact ⟨by omega, by omega, by omega, by omega, by omega, by omega, (rlj_next hR hG hJ hk).2 hg, by omega, by omega⟩
    · obtain ⟨g1, g2⟩ := rlj_end hR hJ (by omega)
      exact ⟨fun h3 => ⟨by omega, by omega, by omega, by omega, by omega, by omega, g1 (.inl h3), by omega, by omega⟩, fun h3 => ⟨fun h4 => ⟨by omega, by omega, by omega, by omega, by omega, by omega, g1 (.inr h4), by omega, by omega⟩, fun h4 => ⟨by omega, by omega, by omega, by omega, g2 (fun h => h.elim h3 h4), by omega, by omega⟩⟩⟩
  · have hin : (i : Int) = n := by omega
    refine ⟨lv_0, fun a O m a0 a1 m0 m1 hO => ?_⟩
    obtain ⟨a, rfl⟩ := Int.eq_ofNat_of_zero_le a0
    refine ⟨fun ha => ⟨fun h3 => ?_, fun h3 => ?_⟩, fun ha => ?_⟩
    · exact ⟨by omega, by omega, by omega, by omega, by omega, by omega, lv_new hO h3 (fun _ _ _ => rfl) rfl, by omega, by omega⟩
    · exact ⟨by omega, by omega, by omega, by omega, lv_next hO h3 (fun _ _ _ => rfl), by omega, by omega⟩
    · have han : (a : Int) = n := by omega
      have hia : i = a := by omega
      subst hia; subst hin
      exact ⟨by omega, ⟨st, hc⟩, fun h => absurd rfl h, fun _ => lv_congr hO fun q hq _ => (hR.2 q (by omega)).symm⟩
end Go.Tt
namespace Go.Tt
open Go Go.Sx Go.Lib Go.Sf
variable {N : Nat}
theorem vLvs : ∀ ds, Sorts (cLvs 8).sorts ds → tLvs.vc (TI N) ds := by
  refine all_i fun L => all_i fun A => all_i fun K => all_t fun T => all_i fun n => all_n ?_
  set_option linter.unusedSimpArgs false in
  simp (config := { maxSteps := 10000000 }) only [tLvs, el0, pl1, pl4, pl5, pl20, el21, pl24, pl25, ql26, el27, el28, el29, el30, el31, el32, pl33, pl34, el35, ql36, el37, pl38, el39, el40, el41, el42, el43, ql44, ql45, el46, el47, ql48, ql49, ν, κ, ο, γ, ω, ρ, χ, π, δ, ξ, υ, α, μ, β, η, τ, sln, fn1, fn2, z0, Tree.vc, PE.den, E.den, dens, BO.ev, List.getElem?_cons_zero, List.getElem?_cons_succ, List.cons_append, List.nil_append, Option.some.injEq, D.i.injEq, D.t.injEq, exists_eq_left', exists_const, forall_const, forall_eq', one_ne, one_eq, zero_ne, zero_eq, min_i64, max_i64, min_u8, max_u8, and_true, true_and, Decidable.not_not, S1000, S1008, S1009, P44, P45, P85, P87, P88, P91, S1012, S1013]
  intro n0 n1 hT hL hA hK st e _ _ hc
  refine ⟨fun h => ⟨⟨st, hc⟩, fun _ => rfl, fun h0 => absurd h0 h⟩, fun he => ?_⟩
  subst he
  obtain ⟨n5, _, ho, _⟩ := chk_ok hc
  refine ⟨⟨lv_0, fam_0, mrk_0⟩, fun i O m F M q i0 i1 m0 m1 q0 hI => ?_⟩
  obtain ⟨i, rfl⟩ := Int.eq_ofNat_of_zero_le i0
  obtain ⟨hO, hF, hM⟩ := hI
  obtain ⟨f0, f1, f2⟩ := fam_len (κ := T i 1) hF
  refine ⟨fun hi => ⟨fun h3 => ?_, fun h3 => ⟨fun h4 => ?_, fun h4 => ⟨fun h2 => ?_, fun h2 => ⟨fun h6 => ?_, fun h6 => ⟨fun h5 => ?_, fun h5 => ?_⟩⟩⟩⟩⟩, fun hi => ?_⟩
  · have hK := keep_other (n := n) (show T i 0 ≠ 2 by omega) (by omega) (by omega) hi
    have hL := lv_new (n := n) (e' := endA T n ((i : Int) + 1).toNat) hO h3 (fun k hk _ => by rw [end_keep hK, List.drop_length, if_neg (by simp)]; rfl) (by rw [end_keep hK, List.drop_length, if_neg (by simp)]; exact endA_ge (Nat.le_refl _))
    have hm : m = code T i := by rw [code_a h3]; exact hO.1
    exact ⟨by omega, by omega, by omega, by omega, by omega, by omega, by omega, by omega, by omega, by omega, by omega, ⟨hL, fam_new hF hK (.inl h3) hm, mrk_next hM (by omega)⟩, by omega, by omega⟩
  · have hK := keep_other (n := n) (show T i 0 ≠ 2 by omega) (by omega) (by omega) hi
    obtain ⟨k1, k2⟩ := mrk_new hM q0 ho hi h4
    have e : (if 0 ≤ tfind M (tupd (tupd (tupd (fun _ _ => 0) 0 0 4) 0 1 (T i 1)) 0 2 (T i 2)) (Int.toNat 3) q.toNat 0 then q else q + 1) = q + 1 := if_neg k1
    have ex : (0 : Int) - i - 1 = -(i : Int) - 1 := by omega
    rw [e, ex]
    exact ⟨by omega, by omega, by omega, by omega, by omega, by omega, by omega, by omega, by omega, by omega, by omega, ⟨lv_keep hO hK h3, fam_new hF hK (.inr h4) (code_m h4).symm, k2⟩, by omega, by omega⟩
  · have hK := keep_none (n := n) (show T i 0 = 2 ∨ T i 0 = 6 from .inl h2)
    have hn3 : T i 0 ≠ 3 ∧ T i 0 ≠ 4 := ⟨h3, h4⟩
    refine ⟨f0, lvj_0 hO, fun j f j0 j1 hJ => ?_⟩
    obtain ⟨j, rfl⟩ := Int.eq_ofNat_of_zero_le j0
    have z : ((0 : Nat) : Int) + (j : Int) = j := by omega
    have z0 : ((0 : Nat) : Int) = 0 := rfl
    refine ⟨fun hj => ?_, fun hj => ?_⟩
    · have nx := lvj_next (k := 0) hF hJ (by omega)
      rw [z, z0] at nx
      exact ⟨fun hx => ⟨(nx.1 hx).1, by omega, by omega, by omega, (nx.1 hx).2, by omega, by omega⟩, fun hx => ⟨by omega, by omega, by omega, nx.2 hx, by omega, by omega⟩⟩
    · exact ⟨by omega, by omega, by omega, by omega, ⟨lvj_end (k := 0) hJ hK (by omega) h3, fam_next hF hK hn3, mrk_next hM h4⟩, by omega, by omega⟩
  · have hK := keep_none (n := n) (show T i 0 = 2 ∨ T i 0 = 6 from .inr h6)
    have hn3 : T i 0 ≠ 3 ∧ T i 0 ≠ 4 := ⟨h3, h4⟩
    refine ⟨f0, lvj_0 hO, fun j f j0 j1 hJ => ?_⟩
    obtain ⟨j, rfl⟩ := Int.eq_ofNat_of_zero_le j0
    have z : ((0 : Nat) : Int) + (j : Int) = j := by omega
    have z0 : ((0 : Nat) : Int) = 0 := rfl
    refine ⟨fun hj => ?_, fun hj => ?_⟩
    · have nx := lvj_next (k := 0) hF hJ (by omega)
      rw [z, z0] at nx
      exact ⟨fun hx => ⟨(nx.1 hx).1, by omega, by omega, by omega, (nx.1 hx).2, by omega, by omega⟩, fun hx => ⟨by omega, by omega, by omega, nx.2 hx, by omega, by omega⟩⟩
    · exact ⟨by omega, by omega, by omega, by omega, ⟨lvj_end (k := 0) hJ hK (by omega) h3, fam_next hF hK hn3, mrk_next hM h4⟩, by omega, by omega⟩
  · obtain ⟨j, hji, g4, g1, g2, gm⟩ := rewind_mark ho hi h5
    have hx := mrk_find hM q0 ho (by omega) hji g4
    rw [g1, g2] at hx
    have e : (if 0 ≤ tfind M (tupd (tupd (tupd (fun _ _ => 0) 0 0 4) 0 1 (T i 1)) 0 2 (T i 2)) (Int.toNat 3) q.toNat 0 then M (tfind M (tupd (tupd (tupd (fun _ _ => 0) 0 0 4) 0 1 (T i 1)) 0 2 (T i 2)) (Int.toNat 3) q.toNat 0) 3 else 0) = -(j : Int) - 1 := (if_pos hx.1).trans hx.2
    rw [e]
    refine ⟨f0, Int.le_refl _, by omega, fun r _ r1 hX => ?_⟩
    obtain ⟨x1, x2⟩ := idx_at hF g4 g1 hX
    refine ⟨fun r0 => ?_, fun r0 => ?_⟩
    · have hr := x1 r0
      obtain ⟨r, rfl⟩ := Int.eq_ofNat_of_zero_le r0
      rw [Int.toNat_natCast] at hr
      have hK := keep_rew h5 gm hr
      have hle := hK.le
      have er : ((r + 1 : Nat) : Int) = (r : Int) + 1 := by omega
      refine ⟨by omega, by omega, by omega, by omega, lvj_0 hO, fun p f p0 p1 hJ => ?_⟩
      obtain ⟨p, rfl⟩ := Int.eq_ofNat_of_zero_le p0
      refine ⟨fun hp => ?_, fun hp => ?_⟩
      · have nx := lvj_next (k := r + 1) (j := p) (O := f) (m := m) hF (by rw [er]; exact hJ) (by omega)
        rw [er] at nx
        exact ⟨by omega, by omega, fun hx => ⟨(nx.1 hx).1, by omega, by omega, by omega, (nx.1 hx).2, by omega, by omega⟩, fun hx => ⟨by omega, by omega, by omega, nx.2 hx, by omega, by omega⟩⟩
      · have hL := lvj_end (k := r + 1) (j := p) (by rw [er]; exact hJ) hK (by omega) h3
        have hN := fam_next hF hK ⟨h3, h4⟩
        rw [er] at hN
        exact ⟨by omega, by omega, by omega, by omega, ⟨hL, hN, mrk_next hM h4⟩, by omega, by omega⟩
    · have hK := keep_stay h5 hi gm (x2 r0)
      have hN := fam_next hF hK ⟨h3, h4⟩
      rw [← (hF (T i 1)).1] at hN
      exact ⟨by omega, by omega, by omega, by omega, ⟨lv_keep hO hK h3, hN, mrk_next hM h4⟩, by omega, by omega⟩
  · have hK := keep_other (n := n) (show T i 0 ≠ 2 by omega) (by omega) (by omega) hi
    have hN := fam_next hF hK ⟨h3, h4⟩
    rw [← (hF (T i 1)).1] at hN
    exact ⟨f0, Int.le_refl _, by omega, by omega, by omega, by omega, ⟨lv_keep hO hK h3, hN, mrk_next hM h4⟩, by omega, by omega⟩
  · have hin : (i : Int) = n := by omega
    subst hin
    exact ⟨by omega, ⟨st, hc⟩, fun h => absurd rfl h, fun _ => hO⟩
end Go.Tt
namespace Go.Tt
open Go Go.Sx Go.Lib Go.Sf
variable {N : Nat}
theorem far_tb {T : Tb} {n : Int} (h : FarP T n 0) (hT : TbR T n) : TbOk T n := ⟨hT, fun r r0 hr => by
  have := (h rfl).2.2 r r0 hr
  omega⟩
theorem lv_row {T O : Tb} {n m : Int} {i : Nat} {e : Nat → Int} (h : LvR T (i : Int) O m e) {r : Int} (r0 : 0 ≤ r) (r1 : r < m) :
    ∃ k : Nat, k < i ∧ T k 0 = 3 ∧ cnt T k = r ∧ O r 0 = T k 1 ∧ O r 1 = T k 2 ∧ O r 2 = T k 3 ∧ O r 3 = T k 4 ∧ O r 4 = k ∧ O r 5 = e k := by
  obtain ⟨h1, h2⟩ := h
  rw [Int.toNat_natCast] at h1
  obtain ⟨k, hk, h3, hc⟩ := cnt_hit (T := T) i r r0 (by omega)
  have := h2 k (by omega) h3
  rw [hc] at this
  exact ⟨k, hk, h3, hc, this⟩
theorem liv_uniq {L A K : Int} {T O O' : Tb} {n m m' e e' : Int} (n0 : 0 ≤ n) (h : LivP L A K T n O m e) (h' : LivP L A K T n O' m' e') : e = e' ∧ m = m' ∧ ∀ r, 0 ≤ r → r < m → ∀ c < 6, O r c = O' r c := by
  obtain ⟨⟨st, hc⟩, h1, h2⟩ := h
  obtain ⟨⟨st', hc'⟩, h1', h2'⟩ := h'
  obtain ⟨_, he⟩ := chk_uniq hc hc'
  subst he
  obtain ⟨n, rfl⟩ := Int.eq_ofNat_of_zero_le n0
  by_cases he : e = 0
  · have g := h2 he
    have g' := h2' he
    have hm : m = m' := by rw [g.1, g'.1]
    subst hm
    refine ⟨rfl, rfl, fun r r0 r1 c hc => ?_⟩
    obtain ⟨k, hk, h3, hr, a0, a1, a2, a3, a4, a5⟩ := lv_row (n := n) g r0 r1
    have := g'.2 k (by omega) h3
    rw [hr] at this
    obtain ⟨b0, b1, b2, b3, b4, b5⟩ := this
    match c, hc with
    | 0, _ => rw [a0, b0]
    | 1, _ => rw [a1, b1]
    | 2, _ => rw [a2, b2]
    | 3, _ => rw [a3, b3]
    | 4, _ => rw [a4, b4]
    | 5, _ => rw [a5, b5]
  · have := h1 he
    have := h1' he
    exact ⟨rfl, by omega, fun r r0 r1 => by omega⟩
theorem ren_uniq {L A K : Int} {T T1 T2 : Tb} {n f t L1 A1 K1 n1 e1 L2 A2 K2 n2 e2 : Int} (h : RenP L A K T n f t L1 A1 K1 T1 n1 e1) (h' : RenP L A K T n f t L2 A2 K2 T2 n2 e2) :
    e1 = e2 ∧ SameP L1 A1 K1 T1 n1 L2 A2 K2 T2 n2 1 := by
  obtain ⟨st, ee, hc, he, h1, h2⟩ := h
  obtain ⟨st', ee', hc', he', h1', h2'⟩ := h'
  obtain ⟨_, hee⟩ := chk_uniq hc hc'
  subst hee
  have h12 : e1 = e2 := he.trans he'.symm
  subst h12
  refine ⟨rfl, fun _ => ?_, fun _ => by decide⟩
  by_cases h0 : e1 = 0
  · obtain ⟨a1, a2, a3, a4, a5⟩ := h2 h0
    obtain ⟨b1, b2, b3, b4, b5⟩ := h2' h0
    refine ⟨by rw [a1, b1], by rw [a2, b2], by rw [a3, b3], by rw [a4, b4], fun r hr c hc => ?_⟩
    rw [a5 r (by omega) (by omega) c hc, b5 r (by omega) (by omega) c hc]
  · obtain ⟨a1, a2, a3, a4⟩ := h1 h0
    obtain ⟨b1, b2, b3, b4⟩ := h1' h0
    exact ⟨by omega, by omega, by omega, by omega, fun r hr => by omega⟩
theorem same_ne {L A K : Int} {T : Tb} {n L' A' K' : Int} {T' : Tb} {n' b b' : Int} (h : SameP L A K T n L' A' K' T' n' b) (h' : SameP L A K T n L' A' K' T' n' b') (hb : b' ≠ 0) : b ≠ 0 := h.2 (h'.1 hb)
theorem vNes : ∀ ds, Sorts cNes.sorts ds → tNes.vc (TI N) ds := by
  refine all_i fun L => all_i fun A => all_i fun K => all_t fun T => all_i fun n => all_n ?_
  set_option linter.unusedSimpArgs false in
  simp (config := { maxSteps := 10000000 }) only [tNes, el0, pl1, pl4, pl5, el12, el28, pl68, el69, ql70, el71, el72, ql73, ql74, ν, κ, ο, γ, ω, ρ, χ, π, δ, ξ, υ, α, μ, β, η, τ, sln, fn1, fn2, z0, Tree.vc, PE.den, E.den, dens, BO.ev, List.getElem?_cons_zero, List.getElem?_cons_succ, List.cons_append, List.nil_append, Option.some.injEq, D.i.injEq, D.t.injEq, exists_eq_left', exists_const, forall_const, forall_eq', one_ne, one_eq, zero_ne, zero_eq, min_i64, max_i64, min_u8, max_u8, and_true, true_and, Decidable.not_not, P45, P69, P71, P87]
  intro n0 nr hR hL hA hK b hb
  refine ⟨fun _ => trivial, fun hb0 => ⟨fun _ => trivial, fun h60 => ?_⟩⟩
  subst hb0
  refine ⟨by omega, far_tb hb hR, fun O m e m0 m1 hP => ⟨fun _ => trivial, fun he => ?_⟩⟩
  subst he
  have hLv := hP.2.2 rfl
  obtain ⟨n, rfl⟩ := Int.eq_ofNat_of_zero_le n0
  rw [Int.toNat_natCast] at hLv
  intro i i0 i1
  refine ⟨fun hi => ?_, fun _ => trivial⟩
  obtain ⟨k, hk, h3, hc, a0, a1, _, _, a4, a5⟩ := lv_row (n := n) hLv i0 hi
  have hr := end_rng (n := (n : Int)) rfl hk (.inl h3)
  have inner : ∀ j : Int, 0 ≤ j → j ≤ i → (j < i → j < m ∧ (O j 0 = O i 0 → (O i 4 < O j 5 → (O j 5 < O i 5 → False) ∧ (¬ O j 5 < O i 5 → (-9223372036854775808 ≤ j + 1 ∧ j + 1 ≤ 9223372036854775807) ∧ 0 ≤ j + 1 ∧ j + 1 ≤ i ∧ 0 ≤ i - (j + 1) ∧ i - (j + 1) < i - j)) ∧
      (¬ O i 4 < O j 5 → (-9223372036854775808 ≤ j + 1 ∧ j + 1 ≤ 9223372036854775807) ∧ 0 ≤ j + 1 ∧ j + 1 ≤ i ∧ 0 ≤ i - (j + 1) ∧ i - (j + 1) < i - j)) ∧
      (¬ O j 0 = O i 0 → (-9223372036854775808 ≤ j + 1 ∧ j + 1 ≤ 9223372036854775807) ∧ 0 ≤ j + 1 ∧ j + 1 ≤ i ∧ 0 ≤ i - (j + 1) ∧ i - (j + 1) < i - j)) ∧
      (¬ j < i → (-9223372036854775808 ≤ i + 1 ∧ i + 1 ≤ 9223372036854775807) ∧ 0 ≤ i + 1 ∧ i + 1 ≤ m ∧ 0 ≤ m - (i + 1) ∧ m - (i + 1) < m - i) := fun j j0 j1 => by
    refine ⟨fun hj => ?_, fun _ => ⟨by omega, by omega, by omega, by omega, by omega⟩⟩
    obtain ⟨q, hq, g3, gc, b0, _, _, _, b4, b5⟩ := lv_row (n := n) hLv j0 (show j < m by omega)
    refine ⟨by omega, fun ha => ⟨fun hlt => ⟨fun hgt => ?_, fun _ => ⟨by omega, by omega, by omega, by omega, by omega⟩⟩, fun _ => ⟨by omega, by omega, by omega, by omega, by omega⟩⟩, fun _ => ⟨by omega, by omega, by omega, by omega, by omega⟩⟩
    have hqk : q < k := by
      rcases Nat.lt_or_ge q k with h | h
      · exact h
      · have := cnt_le T k (q - k)
        rw [show k + (q - k) = q by omega] at this
        omega
    have := nested (n := (n : Int)) (N := n) rfl hqk hk (.inl g3) (.inl h3) (by rw [← b0, ← a0]; exact ha) (by rw [← b5, ← a4]; exact hlt)
    rw [← b5, ← a5] at this
    omega
  refine ⟨fun h => by omega, fun _ => ⟨fun h => by omega, fun _ => ⟨fun h => by omega, fun _ => ⟨by omega, fun h => ?_, fun _ => ⟨fun h => ?_, fun _ => ⟨fun h0 => ⟨by omega, by omega, by omega, fun h => ?_, fun _ => inner⟩, fun _ => inner⟩⟩⟩⟩⟩⟩
  · rw [a4] at h; exact h h3
  · rw [a4, a1] at h; exact h rfl
  · obtain ⟨q, hq, g3, gc, _, _, _, _, b4, _⟩ := lv_row (n := n) hLv (show 0 ≤ i - 1 by omega) (by omega)
    rw [a4, b4] at h
    have := cnt_le T k (q - k)
    rw [show k + (q - k) = q by omega] at this
    omega
theorem vLivF : ∀ ds, Sorts cLivF.sorts ds → tLivF.vc (TI N) ds := by
  refine all_i fun L => all_i fun A => all_i fun K => all_t fun T => all_i fun n => all_i fun f => all_i fun t => all_n ?_
  set_option linter.unusedSimpArgs false in
  simp (config := { maxSteps := 10000000 }) only [tLivF, el0, pl1, pl4, pl5, pl8, pl9, pl20, pl68, ql70, el75, ql76, ν, κ, ο, γ, ω, ρ, χ, π, δ, ξ, υ, α, μ, β, η, τ, sln, fn1, fn2, z0, Tree.vc, PE.den, E.den, dens, BO.ev, List.getElem?_cons_zero, List.getElem?_cons_succ, List.cons_append, List.nil_append, Option.some.injEq, D.i.injEq, D.t.injEq, exists_eq_left', exists_const, forall_const, forall_eq', one_ne, one_eq, zero_ne, zero_eq, min_i64, max_i64, min_u8, max_u8, and_true, true_and, Decidable.not_not, S1001, P45, P67, P69, P71, P87, P92]
  intro n0 nr hR hL hA hK b hb
  refine ⟨fun _ => trivial, fun hb0 => ⟨fun _ => trivial, fun hf => ⟨fun _ => trivial, fun ht => ?_⟩⟩⟩
  subst hb0
  have hn : n ≤ 600 := (hb rfl).2.1
  refine ⟨by omega, far_tb hb hR, by omega, by omega, ?_⟩
  intro L1 A1 K1 T1 n1 e1 _ _ _ _ _ _ hR1 L2 A2 K2 T2 n2 e2 _ _ _ _ _ _ hR2 O1 m1 x1 m10 _ hP1 O2 m2 x2 _ _ hP2 y hy
  obtain ⟨he, hs⟩ := ren_uniq hR1 hR2
  obtain ⟨hx, hm, hO⟩ := liv_uniq n0 hP1 hP2
  have hy0 := same_ne hy hs (by decide)
  clear hR1 hR2 hP1 hP2 hb hR hs hy
  refine ⟨fun h => hy0 h, fun _ => ⟨fun h => h he, fun _ => ⟨fun h => h hx, fun _ => ⟨fun h => h hm, fun _ => fun i i0 i1 => ⟨fun hi => ⟨by omega, fun h => h ⟨hO i i0 hi 0 (by decide), hO i i0 hi 1 (by decide), hO i i0 hi 2 (by decide), hO i i0 hi 3 (by decide), hO i i0 hi 4 (by decide), hO i i0 hi 5 (by decide), by decide⟩, fun _ => ⟨by omega, by omega, by omega, by omega, by omega⟩⟩, fun _ => trivial⟩⟩⟩⟩⟩
theorem vLivN : ∀ ds, Sorts cLivN.sorts ds → tLivN.vc (TI N) ds := by
  refine all_i fun L => all_i fun A => all_i fun K => all_t fun T => all_i fun n => all_i fun f => all_i fun t => all_n ?_
  set_option linter.unusedSimpArgs false in
  simp (config := { maxSteps := 10000000 }) only [tLivN, el0, pl1, pl8, pl9, pl13, pl20, pl68, ql70, el75, ql76, ν, κ, ο, γ, ω, ρ, χ, π, δ, ξ, υ, α, μ, β, η, τ, sln, fn1, fn2, z0, Tree.vc, PE.den, E.den, dens, BO.ev, List.getElem?_cons_zero, List.getElem?_cons_succ, List.cons_append, List.nil_append, Option.some.injEq, D.i.injEq, D.t.injEq, exists_eq_left', exists_const, forall_const, forall_eq', one_ne, one_eq, zero_ne, zero_eq, min_i64, max_i64, min_u8, max_u8, and_true, true_and, Decidable.not_not, S1001, P45, P67, P69, P71, P87, P92]
  intro n0 nr hR hL hA hK hn b hb
  refine ⟨fun _ => trivial, fun hb0 => ⟨fun _ => trivial, fun hf => ⟨fun _ => trivial, fun ht => ?_⟩⟩⟩
  subst hb0
  refine ⟨⟨fun r r0 hr => by omega, fun r r0 hr => by omega⟩, by omega, by omega, ?_⟩
  intro L1 A1 K1 T1 n1 e1 _ _ _ _ _ _ hR1 L2 A2 K2 T2 n2 e2 _ _ _ _ _ _ hR2 O1 m1 x1 m10 _ hP1 O2 m2 x2 _ _ hP2 y hy
  obtain ⟨he, hs⟩ := ren_uniq hR1 hR2
  obtain ⟨hx, hm, hO⟩ := liv_uniq (Int.le_refl _) hP1 hP2
  have hy0 := same_ne hy hs (by decide)
  clear hR1 hR2 hP1 hP2 hb hR hs hy
  refine ⟨fun h => hy0 h, fun _ => ⟨fun h => h he, fun _ => ⟨fun h => h hx, fun _ => ⟨fun h => h hm, fun _ => fun i i0 i1 => ⟨fun hi => ⟨by omega, fun h => h ⟨hO i i0 hi 0 (by decide), hO i i0 hi 1 (by decide), hO i i0 hi 2 (by decide), hO i i0 hi 3 (by decide), hO i i0 hi 4 (by decide), hO i i0 hi 5 (by decide), by decide⟩, fun _ => ⟨by omega, by omega, by omega, by omega, by omega⟩⟩, fun _ => trivial⟩⟩⟩⟩⟩
end Go.Tt
