/-
  The formulas of the contracts hold: programs are checked. Conditions: none; nothing here speaks of a program.
-/
import Derived.Test.YtdelhnefoccnbaaGreatDoorC5
namespace Go.Tt
open Go Go.Sx Go.Lib Go.Sf
variable {N : Nat}
set_option maxHeartbeats 4000000 in
theorem vChk : ∀ ds, Sorts cChk.sorts ds → tChk.vc (TI N) ds := by
  refine all_t fun T => all_i fun n => all_i fun i => all_t fun M => all_i fun mm => all_n ?_
  set_option linter.unusedSimpArgs false in
  simp (config := { maxSteps := 10000000 }) only [tChk, e23, p51, e86, e87, e88, e89, e335, p460, e461, e462, e463, e464, e465, e466, e467, e468, e470, e604, q605, e606, e607, e608, q609, q610, q611, q612, q613, ν, κ, ο, γ, ω, ρ, χ, π, δ, ξ, υ, α, μ, β, η, τ, sln, fn1, fn2, z0, Tree.vc, PE.den, E.den, dens, BO.ev, List.getElem?_cons_zero, List.getElem?_cons_succ, List.cons_append, List.nil_append, Option.some.injEq, D.i.injEq, D.t.injEq, exists_eq_left', exists_const, forall_const, forall_eq', one_ne, one_eq, zero_ne, zero_eq, min_i64, max_i64, min_u8, max_u8, and_true, true_and, Decidable.not_not, P31, S1008, P45, P46]
  intro i0 i1 hT m0 e he
  refine ⟨fun h => ?_, fun h => ?_⟩
  · have he : e = stepE (T i 0) (sdec (T i 1)) (sdec (T i 2)) (T i 3) (T i 4) (T i 5) (T i 6) (T i 7) := he
    unfold ChkM
    rw [← he, name_e h]
  · subst h
    have ho : OkP (T i 0) (T i 1) (T i 2) (T i 3) (T i 4) (T i 5) (T i 6) (T i 7) := he.symm
    have hF := okF ho
    have k1 := hF.k1
    have k13 := hF.k13
    have hc : ∀ q, ChkM M mm (T i 0) (T i 1) (T i 2) (T i 3) (T i 4) (T i 5) (T i 6) (T i 7) q ↔ q = nameE (InM M mm 1 (T i 1) 0) (InM M mm (kof (T i 0).toNat) (T i 1) (T i 2)) (T i 0) 0 := fun q => by
      unfold ChkM
      have ho : stepE (T i 0) (sdec (T i 1)) (sdec (T i 2)) (T i 3) (T i 4) (T i 5) (T i 6) (T i 7) = 0 := ho
      rw [ho]
    simp only [colAr k1 k13, colNm k1 k13, colOf k1 k13, find_ar m0, find_nm m0, hc]
    clear he ho hF hT hc
    generalize InM M mm 1 (T i 1) 0 = A
    generalize InM M mm (kof (T i 0).toNat) (T i 1) (T i 2) = B
    generalize T i 0 = k at *
    have hA := kar_le k.toNat
    have hB := knm_le k.toNat
    have c8 : (kar k.toNat = 1 ∧ A) ∨ (knm k.toNat = 1 ∧ B) → (8 : Int) = nameE A B k 0 := fun h => (name_8 h).symm
    have c4 : ¬ ((kar k.toNat = 1 ∧ A) ∨ (knm k.toNat = 1 ∧ B)) → (kar k.toNat = 2 ∧ ¬ A) ∨ (knm k.toNat = 2 ∧ ¬ B) → (4 : Int) = nameE A B k 0 := fun h h2 => (name_4 h h2).symm
    have c0 : ¬ ((kar k.toNat = 1 ∧ A) ∨ (knm k.toNat = 1 ∧ B)) → ¬ ((kar k.toNat = 2 ∧ ¬ A) ∨ (knm k.toNat = 2 ∧ ¬ B)) → (0 : Int) = nameE A B k 0 := fun h h2 => (name_0 h h2).symm
    generalize nameE A B k 0 = q at *
    generalize kar k.toNat = a at *
    generalize knm k.toNat = b at *
    refine ⟨by omega, by omega, ?_⟩
    clear k1 k13 i0 i1 m0
    have ha : a = 0 ∨ a = 1 ∨ a = 2 := by omega
    have hb : b = 0 ∨ b = 1 ∨ b = 2 := by omega
    clear hA hB
    rcases ha with rfl | rfl | rfl <;> rcases hb with rfl | rfl | rfl <;> by_cases hA : A <;> by_cases hB : B <;> simp [hA, hB] at c8 c4 c0 ⊢ <;> omega
theorem chk_rng {L A K : Int} {T : Tb} {n : Int} (hn : ¬ 500 < n) (h : ¬ right L A K) : ChkP L A K T n (-1) 7 := .inr (.inl ⟨by omega, h, rfl, rfl⟩)
set_option maxHeartbeats 4000000 in
theorem vCheck : ∀ ds, Sorts (cCheck 14).sorts ds → tCheck.vc (TI N) ds := by
  refine all_i fun L => all_i fun A => all_i fun K => all_t fun T => all_i fun n => all_n ?_
  set_option linter.unusedSimpArgs false in
  simp (config := { maxSteps := 10000000 }) only [tCheck, e6, e10, e23, p51, p52, e62, p73, e79, e85, e86, e87, e88, e89, p236, e295, e418, e607, p614, p615, q616, e617, q618, e619, e620, e621, e622, p623, p624, e625, e626, e627, e628, q629, q630, e631, q632, q633, q634, ν, κ, ο, γ, ω, ρ, χ, π, δ, ξ, υ, α, μ, β, η, τ, sln, fn1, fn2, z0, Tree.vc, PE.den, E.den, dens, BO.ev, List.getElem?_cons_zero, List.getElem?_cons_succ, List.cons_append, List.nil_append, Option.some.injEq, D.i.injEq, D.t.injEq, exists_eq_left', exists_const, forall_const, forall_eq', one_ne, one_eq, zero_ne, zero_eq, min_i64, max_i64, min_u8, max_u8, and_true, true_and, Decidable.not_not, S1000, S1008, S1009, P44, P45, P46, P47]
  intro n0 _ hT _ _ _
  refine ⟨fun h => .inl ⟨h, rfl, rfl⟩, fun h5 => ⟨fun L0 => ⟨fun L1 => ⟨fun A0 => ⟨fun A1 => ⟨fun K0 => ⟨fun K1 => chk_rng h5 (by unfold right; omega), fun K1 => ⟨map_begin T, fun i M mm i0 i1 m0 hM => ⟨fun hi e he => ⟨fun h => ?_, fun h => ?_⟩, fun hi => ?_⟩⟩⟩, fun K0 => chk_rng h5 (by unfold right; omega)⟩, fun A1 => chk_rng h5 (by unfold right; omega)⟩, fun A0 => chk_rng h5 (by unfold right; omega)⟩, fun L1 => chk_rng h5 (by unfold right; omega)⟩, fun L0 => chk_rng h5 (by unfold right; omega)⟩⟩
  · have ha := map_after hM he
    exact ⟨by omega, by omega, .inr (.inr ⟨by omega, ⟨⟨L0, L1⟩, ⟨A0, A1⟩, ⟨K0, K1⟩⟩, .inr ⟨i0, hi, h, ha, hM.1⟩⟩)⟩
  · subst h
    have ha := (map_after hM he).symm
    have ho : OkP (T i 0) (T i 1) (T i 2) (T i 3) (T i 4) (T i 5) (T i 6) (T i 7) := name_step ha
    have hF := okF ho
    have k1 := hF.k1
    have k13 := hF.k13
    simp only [colAr k1 k13, colNm k1 k13, colOf k1 k13]
    have mA := map_ar i0 m0 hM ha
    have mN := map_nm i0 m0 hM ha
    have m_ := map_none i0 hM ha
    have hx : ¬ (kar (T i 0).toNat = 1 ∧ knm (T i 0).toNat = 1) := fun ⟨h1, h2⟩ => by
      have := kar_1 h1
      have := knm_1 h2
      omega
    refine ⟨by omega, by omega, ?_⟩
    clear ho hF he k1 k13 ha hM
    have hc : ∀ p : Prop, [Decidable p] → 0 ≤ (if p then mm else mm + 1) := fun p _ => by split <;> omega
    repeat' with_reducible first | apply And.intro | intro _
    all_goals first
      | exact absurd ⟨by omega, by omega⟩ hx
      | omega
      | exact hc _
      | exact mA (by omega)
      | exact mN (by omega)
      | exact m_ (by omega) (by omega)
  · have : i = n := by omega
    subst this
    exact .inr (.inr ⟨by omega, ⟨⟨L0, L1⟩, ⟨A0, A1⟩, ⟨K0, K1⟩⟩, .inl ⟨rfl, rfl, hM.1⟩⟩)
end Go.Tt
namespace Go.Tt
open Go Go.Sx Go.Lib Go.Sf
variable {N : Nat}
section
variable {s : Int} {T : Tb} {n e w lo1 n1 b0 b1 x lo2 n2 b2 y lo3 n3 b3 z lo4 n4 b4 : Int}
end
section
variable {T U : Tb} {q v0 v1 v2 v3 v4 v5 v6 v7 s : Int}
end
end Go.Tt
namespace Go.Tt
open Go Go.Sx Go.Lib Go.Sf
variable {N : Nat}
theorem vMade : ∀ ds, Sorts cMade.sorts ds → tMade.vc (TI N) ds := by
  refine all_t fun T => all_i fun m => all_i fun n => all_i fun a => all_n ?_
  set_option linter.unusedSimpArgs false in
  simp (config := { maxSteps := 10000000 }) only [tMade, e23, p51, e58, q351, p460, p670, p671, q672, ν, κ, ο, γ, ω, ρ, χ, π, δ, ξ, υ, α, μ, β, η, τ, sln, fn1, fn2, z0, Tree.vc, PE.den, E.den, dens, BO.ev, List.getElem?_cons_zero, List.getElem?_cons_succ, List.cons_append, List.nil_append, Option.some.injEq, D.i.injEq, D.t.injEq, exists_eq_left', exists_const, forall_const, forall_eq', one_ne, one_eq, zero_ne, zero_eq, min_i64, max_i64, min_u8, max_u8, and_true, true_and, Decidable.not_not, P45, P50, P51]
  intro h0 h1 h2 hT
  have nx : ∀ i, 0 ≤ i → ¬ Made T i a → ¬ (T i 0 = 1 ∧ T i 1 = a) → ¬ Made T (i + 1) a := fun i i0 h g e => ((made_next i0).1 e).elim h g
  refine ⟨fun ⟨j, j0, j1, _⟩ => by omega, fun i i0 i1 hM => ⟨fun hi => ⟨by omega, fun hk => ⟨fun ha => ⟨fun _ => ⟨i, i0, hi, hk, ha⟩, fun _ => by decide⟩, fun ha => ⟨by omega, by omega, by omega, nx i i0 hM fun g => ha g.2, by omega, by omega⟩⟩, fun hk => ⟨by omega, by omega, by omega, nx i i0 hM fun g => hk g.1, by omega, by omega⟩⟩, fun hi => ?_⟩⟩
  have : i = n := by omega
  subst this
  exact ⟨fun h => absurd rfl h, fun h => absurd h hM⟩
theorem vFind : ∀ ds, Sorts cFind.sorts ds → tFind.vc (TI N) ds := by
  refine all_t fun T => all_i fun m => all_i fun n => all_i fun k => all_i fun a => all_i fun b => all_n ?_
  set_option linter.unusedSimpArgs false in
  simp (config := { maxSteps := 10000000 }) only [tFind, e23, e28, p72, e350, p460, p670, p671, q673, ν, κ, ο, γ, ω, ρ, χ, π, δ, ξ, υ, α, μ, β, η, τ, sln, fn1, fn2, z0, Tree.vc, PE.den, E.den, dens, BO.ev, List.getElem?_cons_zero, List.getElem?_cons_succ, List.cons_append, List.nil_append, Option.some.injEq, D.i.injEq, D.t.injEq, exists_eq_left', exists_const, forall_const, forall_eq', one_ne, one_eq, zero_ne, zero_eq, min_i64, max_i64, min_u8, max_u8, and_true, true_and, Decidable.not_not, P45, P52, P53]
  intro h0 h1 h2 hT
  have nx : ∀ i, 0 ≤ i → ¬ Has T i k a b → ¬ (T i 0 = k ∧ T i 1 = a ∧ T i 2 = b) → ¬ Has T (i + 1) k a b := fun i i0 h g e => ((has_next i0).1 e).elim h g
  refine ⟨fun ⟨j, j0, j1, _⟩ => by omega, fun i i0 i1 hM => ⟨fun hi => ⟨by omega, fun hk => ⟨fun ha => ⟨fun hb => ⟨by omega, by omega, fun _ => ⟨i, i0, hi, hk, ha, hb⟩, fun _ => i0⟩, fun hb => ⟨by omega, by omega, by omega, nx i i0 hM fun g => hb g.2.2, by omega, by omega⟩⟩, fun ha => ⟨by omega, by omega, by omega, nx i i0 hM fun g => ha g.2.1, by omega, by omega⟩⟩, fun hk => ⟨by omega, by omega, by omega, nx i i0 hM fun g => hk g.1, by omega, by omega⟩⟩, fun hi => ?_⟩⟩
  have : i = n := by omega
  subst this
  exact ⟨by omega, fun h => by omega, fun h => absurd h hM⟩
theorem vRCheck : ∀ ds, Sorts (cCheck 15).sorts ds → tRCheck.vc (TI N) ds := by
  refine all_i fun L => all_i fun A => all_i fun K => all_t fun T => all_i fun n => all_n ?_
  set_option linter.unusedSimpArgs false in
  simp (config := { maxSteps := 10000000 }) only [tRCheck, e1, e6, e10, e23, p51, p52, e62, e79, e83, e85, p236, p614, p615, q616, e617, q618, e619, e620, e621, e622, p623, p624, q629, q634, p635, ν, κ, ο, γ, ω, ρ, χ, π, δ, ξ, υ, α, μ, β, η, τ, sln, fn1, fn2, z0, Tree.vc, PE.den, E.den, dens, BO.ev, List.getElem?_cons_zero, List.getElem?_cons_succ, List.cons_append, List.nil_append, Option.some.injEq, D.i.injEq, D.t.injEq, exists_eq_left', exists_const, forall_const, forall_eq', one_ne, one_eq, zero_ne, zero_eq, min_i64, max_i64, min_u8, max_u8, and_true, true_and, Decidable.not_not, S1001, P44, P45, P48, P49]
  intro n0 _ hT _ _ _
  refine ⟨fun h => .inl ⟨h, rfl, rfl⟩, fun h5 => ⟨fun L0 => ⟨fun L1 => ⟨fun A0 => ⟨fun A1 => ⟨fun K0 => ⟨fun K1 => chk_rng h5 (by unfold right; omega), fun K1 => ⟨fun j _ _ => by omega, fun i i0 i1 hO => ⟨fun hi => ?_, fun hi => ?_⟩⟩⟩, fun K0 => chk_rng h5 (by unfold right; omega)⟩, fun A1 => chk_rng h5 (by unfold right; omega)⟩, fun A0 => chk_rng h5 (by unfold right; omega)⟩, fun L1 => chk_rng h5 (by unfold right; omega)⟩, fun L0 => chk_rng h5 (by unfold right; omega)⟩⟩
  · obtain ⟨b0, b3, b4, b5, b6, b7⟩ := hT.1 i i0 hi
    obtain ⟨b1, b2⟩ := hT.2 i i0 hi
    refine ⟨by omega, b0, b1, b2, b3, b4, b5, b6, b7, fun e he => ⟨fun h => ⟨by omega, by omega, .inr (.inr ⟨by omega, ⟨⟨L0, L1⟩, ⟨A0, A1⟩, ⟨K0, by omega⟩⟩, .inr ⟨i0, hi, h, he, hO⟩⟩)⟩, fun h => ⟨by omega, by omega, by omega, okI_next hO ?_, by omega, by omega⟩⟩⟩
    exact he.symm.trans h
  · have : i = n := by omega
    subst this
    exact .inr (.inr ⟨by omega, ⟨⟨L0, L1⟩, ⟨A0, A1⟩, ⟨K0, by omega⟩⟩, .inl ⟨rfl, rfl, hO⟩⟩)
section
variable {s p i n : Int} {T : Tb}
end
end Go.Tt
namespace Go.Tt
open Go Go.Sx Go.Lib Go.Sf
variable {N : Nat}
theorem chk_uniq {L A K : Int} {T : Tb} {n st e st' e' : Int} (h : ChkP L A K T n st e) (h' : ChkP L A K T n st' e') : st = st' ∧ e = e' := by
  rcases h with ⟨h1, h2, h3⟩ | ⟨h1, h2, h3, h4⟩ | ⟨h1, h2, h3⟩ <;> rcases h' with ⟨g1, g2, g3⟩ | ⟨g1, g2, g3, g4⟩ | ⟨g1, g2, g3⟩
  · omega
  · omega
  · omega
  · omega
  · omega
  · exact absurd g2 h2
  · omega
  · exact absurd h2 g2
  · rcases h3 with ⟨a1, a2, a3⟩ | ⟨a1, a2, a3, a4, a5⟩ <;> rcases g3 with ⟨b1, b2, b3⟩ | ⟨b1, b2, b3, b4, b5⟩
    · omega
    · exact absurd (b4.trans (a3 st' b1 b2)) b3
    · exact absurd (a4.trans (b3 st a1 a2)) a3
    · have : st = st' := by
        rcases Int.lt_trichotomy st st' with h | h | h
        · exact absurd (a4.trans (b5 st a1 h)) a3
        · exact h
        · exact absurd (b4.trans (a5 st' b1 h)) b3
      subst this
      exact ⟨rfl, a4.trans b4.symm⟩
theorem chk_eq {L A K : Int} {T T' : Tb} {n st e : Int} (hs : ∀ r : Int, 0 ≤ r → r < n → ∀ c < 8, T r c = T' r c) (h : ChkP L A K T n st e) : ChkP L A K T' n st e := by
  rcases h with h | h | ⟨h1, h2, h3⟩
  · exact .inl h
  · exact .inr (.inl h)
  · refine .inr (.inr ⟨h1, h2, ?_⟩)
    rcases h3 with ⟨a1, a2, a3⟩ | ⟨a1, a2, a3, a4, a5⟩
    · exact .inl ⟨a1, a2, ok_eq hs a3⟩
    · exact .inr ⟨a1, a2, a3, a4.trans (aft_eq (fun r r0 r1 => hs r r0 (by omega)) a1), ok_eq (fun r r0 r1 => hs r r0 (by omega)) a5⟩
end Go.Tt
namespace Go.Tt
open Go Go.Sx Go.Lib Go.Sf
variable {N : Nat}
theorem made_b {T : Tb} {i a b : Int} : MadeP T i a b ↔ (b ≠ 0 ↔ Made T i a) := Iff.rfl
theorem find_b {T : Tb} {i k a m r : Int} : FindP T i k a m r ↔ (0 ≤ r ↔ Has T i k a m) := Iff.rfl
set_option maxHeartbeats 8000000 in
theorem vAft : ∀ ds, Sorts cAft.sorts ds → tAft.vc (TI N) ds := by
  refine all_t fun T => all_i fun mm => all_i fun i => all_i fun k => all_i fun a => all_i fun m => all_i fun x => all_i fun y => all_i fun z => all_i fun w => all_i fun n => all_n ?_
  set_option linter.unusedSimpArgs false in
  simp (config := { maxSteps := 10000000 }) only [tAft, e1, p3, e23, e28, p74, e242, e244, e274, e282, e283, p383, p460, p670, p671, p674, q675, e676, p677, p678, p679, e680, p681, p682, e683, q684, e685, p686, e687, q688, q689, q690, q691, q692, q693, q694, p695, q696, q697, q698, q699, p700, p701, p702, p703, ν, κ, ο, γ, ω, ρ, χ, π, δ, ξ, υ, α, μ, β, η, τ, sln, fn1, fn2, z0, Tree.vc, PE.den, E.den, dens, BO.ev, List.getElem?_cons_zero, List.getElem?_cons_succ, List.cons_append, List.nil_append, Option.some.injEq, D.i.injEq, D.t.injEq, exists_eq_left', exists_const, forall_const, forall_eq', one_ne, one_eq, zero_ne, zero_eq, min_i64, max_i64, min_u8, max_u8, and_true, true_and, Decidable.not_not, S1001, P31, P45, P49, P50, P52, P80]
  intro i0 i1 i2 hT hk ha hm hx hy hz hw hn e he
  refine ⟨fun h => ?_, fun h f hf => ?_⟩
  · have he : e = stepE k (sdec a) (sdec m) x y z w n := he
    show e = aftE T i k a m x y z w n
    unfold aftE
    rw [← he, name_e h]
  · subst h
    have ho : OkP k a m x y z w n := he.symm
    have hF := okF ho
    have k1 := hF.k1
    have k13 := hF.k13
    have hc : ∀ q, AftP T i k a m x y z w n q ↔ q = nameE (Made T i a) (Has T i (kof k.toNat) a m) k 0 := fun q => by
      unfold AftP aftE
      have ho : stepE k (sdec a) (sdec m) x y z w n = 0 := ho
      rw [ho]
    obtain ⟨_, t1, t2, _⟩ := hf k.toNat (by omega) (by omega)
    rw [show ((k.toNat : Nat) : Int) = k by omega] at t1 t2
    simp only [hc, made_b, find_b, t1, t2]
    clear he ho hF hT hc t1 t2 hf ha hm hx hy hz hw hn hk
    have : k = 1 ∨ k = 2 ∨ k = 3 ∨ k = 4 ∨ k = 5 ∨ k = 6 ∨ k = 7 ∨ k = 8 ∨ k = 9 ∨ k = 10 ∨ k = 11 ∨ k = 12 ∨ k = 13 := by omega
    clear k1 k13
    by_cases hA : Made T i a <;> by_cases h3 : Has T i 3 a m <;> by_cases h4 : Has T i 4 a m
    all_goals
      rcases this with rfl | rfl | rfl | rfl | rfl | rfl | rfl | rfl | rfl | rfl | rfl | rfl | rfl
    all_goals
      simp [nameE, u1, u2, kar, knm, kof, hA, h3, h4]
    all_goals
      repeat' with_reducible first | apply And.intro | intro _
    all_goals omega
end Go.Tt
