/-
  The formulas of the contracts hold: the reference reads a step. Conditions: none; nothing here speaks of a program.
-/
import Derived.Test.YtiehemggplndcaaGreatDoorC3
import Derived.Test.YtiehemggplndcaaGreatDoorC5
namespace Go.Tt
open Go Go.Sx Go.Lib Go.Sf
variable {N : Nat}
set_option maxHeartbeats 8000000 in
theorem Qd : ∀ ds, Sorts uH.sorts ds → iq.vc (TI N) ds := by
 refine qx fun s => zk ?_
 set_option linter.unusedSimpArgs false in
 simp (config := { maxSteps := 10000000 }) only [iq, e0, e1, e23, e38, e43, e53, e62, p66, p68, p69, p70, e71, p72, p73, e83, e84, e142, TH, aC, yM, bF, e283, e295, VX, AX, e354, qjT, iH, e357, e358, e359, e360, Rz, Rq, P9, e364, e365, qkF, qkD, Vo, aN, DY, P8, DW, DK, VY, YS, AY, YR, YP, YN, qkB, YM, YH, nV, tV, e385, qkG, Q9, qkV, e389, e390, e391, bD, e393, YF, Aj, e396, JM, JH, JG, qjS, e401, qjR, qjP, iF, Vi, Az, qjN, e408, e409, CB, CG, CV, CX, e414, e415, e416, Aq, e418, JF, JD, JV, e422, CY, CW, e425, CJ, CZ, DJ, CQ, Ce, Ca, Co, Ci, O9, TB, TG, TV, O8, qjM, qkX, qkY, qkW, O7, qjH, qjF, qjD, O6, O5, qjB, O4, AJ, qkK, qkJ, qkZ, qjG, qjV, qjX, qjY, ν, κ, ο, γ, ω, ρ, χ, π, δ, ξ, υ, α, μ, β, η, τ, sln, fn1, fn2, z0, Tree.vc, PE.den, E.den, qK, BO.ev, List.getElem?_cons_zero, List.getElem?_cons_succ, List.cons_append, List.nil_append, Option.some.injEq, D.i.injEq, D.t.injEq, exists_eq_left', exists_const, forall_const, forall_eq', qY, qX, qo, zero_eq, min_i64, max_i64, min_u8, max_u8, and_true, true_and, Decidable.not_not, zH, P10, P34, P23, P55, P57, P58, P80]
 intro hs f n b hn0 hS hW
 have z0 : qy 0 ≤ 100000 := by rw [vH]; omega
 refine ⟨fun hb => ⟨z0, OG (by rw [← hb]; exact hW)⟩, fun hb => ?_⟩
 obtain ⟨ws, hB, h64, hj, hR⟩ := hW.1 hb
 refine ⟨fun h0 => ⟨z0, Tc hB hj (by rw [← h0]; exact hR)⟩, fun h0 T hT => ⟨qgF, fun q k hq1 hq2 hk0 hk1 hK => ⟨fun hq => ?_, fun hq => ?_⟩⟩⟩
 · have hk := (hT q.toNat (by omega) (by omega)).1
   rw [show ((q.toNat : Nat) : Int) = q by omega] at hk
   refine ⟨by omega, by omega, fun h => ⟨by omega, by omega, by omega, by omega, qwa hq1 (by rw [← h, hk]), by omega, by omega⟩, fun h => ⟨by omega, by omega, by omega, EK hK hq1 (by rw [← hk]; exact h), by omega, by omega⟩⟩
 · have qbo : q = 14 := by omega
   subst qbo
   refine ⟨fun hk => ⟨by omega, z0, by subst hk; exact OD hB hj hR hK⟩, fun hk => ?_⟩
   have R : Rd s f n k := ⟨⟨ws, hB, hj, hR⟩, by rcases hK with ⟨h, _⟩ | ⟨_, _, h⟩; exact absurd h hk; exact h, by omega, hk1⟩
   obtain ⟨_, t1, t2, t3⟩ := hT k.toNat (by omega) (by omega)
   rw [show ((k.toNat : Nat) : Int) = k by omega] at t1 t2 t3
   have hc := yE k.toNat
   clear hT hK hR hj hB h64 hW hb
   refine ⟨by omega, by omega, by omega, ?_⟩
   generalize T k 1 = u at t1 ⊢
   generalize T k 2 = v at t2 ⊢
   generalize T k 3 = c at t3 ⊢
   by_cases ha : kar k.toNat = 0 <;> by_cases hm : knm k.toNat = 0
   all_goals
     have hu := @BF k.toNat
     have hv := @BD k.toNat
     rw [← t1] at hu
     rw [← t2] at hv
     clear t1 t2
   · have hu := hu.2 ha
     have hv := hv.2 hm
     have hA := Bw ha
     have hM := Bw hm
     have nm := @qgB f k ha hm
     refine ⟨fun h => absurd hu h, fun _ => ⟨fun h => absurd hv h, fun _ => ?_⟩⟩
     clear ha hm hu hv hq1 hq2 hq hs
     repeat' with_reducible first | apply And.intro | intro _
     all_goals first
       | assumption
       | omega
       | exact hS _ (by omega) (by omega)
       | exact YO
       | exact YI (by assumption) (by assumption) (by assumption) (by omega) (by omega)
       | exact YU (by assumption) (by assumption) (by assumption) (by omega) (by omega)
       | exact YL (by assumption) (by assumption) (by assumption) (by omega) (by omega)
       | exact Yg R (by omega) (by omega)
       | exact eH R (by assumption) (by assumption) (by omega) (by omega)
       | exact Yv R (by assumption) (by assumption) (by omega) (by omega)
       | exact OB R (by assumption) (by assumption) (by omega) (by omega)
       | exact eF R nm (by assumption) (by omega) (by omega) (by omega)
       | exact eD R nm (by assumption) (by assumption) (by assumption) (by assumption) (by omega) (by omega) (by omega) (by omega) (by omega)
       | exact eB R nm (by assumption) (by assumption) (by assumption) (by assumption) (by omega) (by omega) (by omega) (by omega) (by omega)
   · have hu := hu.2 ha
     have hv := fun h => hm (hv.1 h)
     have hA := Bw ha
     have hM := Jk hm
     have nm := @qgG f k ha hm
     refine ⟨fun h => absurd hu h, fun _ => ⟨fun _ => ?_, fun h => absurd h hv⟩⟩
     clear ha hm hu hv hq1 hq2 hq hs
     repeat' with_reducible first | apply And.intro | intro _
     all_goals first
       | assumption
       | omega
       | exact hS _ (by omega) (by omega)
       | exact YO
       | exact YI (by assumption) (by assumption) (by assumption) (by omega) (by omega)
       | exact YU (by assumption) (by assumption) (by assumption) (by omega) (by omega)
       | exact YL (by assumption) (by assumption) (by assumption) (by omega) (by omega)
       | exact Yg R (by omega) (by omega)
       | exact eH R (by assumption) (by assumption) (by omega) (by omega)
       | exact Yv R (by assumption) (by assumption) (by omega) (by omega)
       | exact OB R (by assumption) (by assumption) (by omega) (by omega)
       | exact eF R nm (by assumption) (by omega) (by omega) (by omega)
       | exact eD R nm (by assumption) (by assumption) (by assumption) (by assumption) (by omega) (by omega) (by omega) (by omega) (by omega)
       | exact eB R nm (by assumption) (by assumption) (by assumption) (by assumption) (by omega) (by omega) (by omega) (by omega) (by omega)
   · have hu := fun h => ha (hu.1 h)
     have hv := hv.2 hm
     have hA := Jk ha
     have hM := Bw hm
     have nm := @qgV f k ha hm
     refine ⟨fun _ => ⟨by omega, fun h => absurd hv h, fun _ => ?_⟩, fun h => absurd h hu⟩
     clear ha hm hu hv hq1 hq2 hq hs
     repeat' with_reducible first | apply And.intro | intro _
     all_goals first
       | assumption
       | omega
       | exact hS _ (by omega) (by omega)
       | exact YO
       | exact YI (by assumption) (by assumption) (by assumption) (by omega) (by omega)
       | exact YU (by assumption) (by assumption) (by assumption) (by omega) (by omega)
       | exact YL (by assumption) (by assumption) (by assumption) (by omega) (by omega)
       | exact Yg R (by omega) (by omega)
       | exact eH R (by assumption) (by assumption) (by omega) (by omega)
       | exact Yv R (by assumption) (by assumption) (by omega) (by omega)
       | exact OB R (by assumption) (by assumption) (by omega) (by omega)
       | exact eF R nm (by assumption) (by omega) (by omega) (by omega)
       | exact eD R nm (by assumption) (by assumption) (by assumption) (by assumption) (by omega) (by omega) (by omega) (by omega) (by omega)
       | exact eB R nm (by assumption) (by assumption) (by assumption) (by assumption) (by omega) (by omega) (by omega) (by omega) (by omega)
   · have hu := fun h => ha (hu.1 h)
     have hv := fun h => hm (hv.1 h)
     have hA := Jk ha
     have hM := Jk hm
     have nm := @qgX f k ha hm
     refine ⟨fun _ => ⟨by omega, fun _ => ?_, fun h => absurd h hv⟩, fun h => absurd h hu⟩
     clear ha hm hu hv hq1 hq2 hq hs
     repeat' with_reducible first | apply And.intro | intro _
     all_goals first
       | assumption
       | omega
       | exact hS _ (by omega) (by omega)
       | exact YO
       | exact YI (by assumption) (by assumption) (by assumption) (by omega) (by omega)
       | exact YU (by assumption) (by assumption) (by assumption) (by omega) (by omega)
       | exact YL (by assumption) (by assumption) (by assumption) (by omega) (by omega)
       | exact Yg R (by omega) (by omega)
       | exact eH R (by assumption) (by assumption) (by omega) (by omega)
       | exact Yv R (by assumption) (by assumption) (by omega) (by omega)
       | exact OB R (by assumption) (by assumption) (by omega) (by omega)
       | exact eF R nm (by assumption) (by omega) (by omega) (by omega)
       | exact eD R nm (by assumption) (by assumption) (by assumption) (by assumption) (by omega) (by omega) (by omega) (by omega) (by omega)
       | exact eB R nm (by assumption) (by assumption) (by assumption) (by assumption) (by omega) (by omega) (by omega) (by omega) (by omega)
end Go.Tt
