/-
  The formulas of the contracts hold: programs are checked. Conditions: none; nothing here speaks of a program.
-/
import Derived.Test.YtiehemggplndcaaGreatDoorC5
namespace Go.Tt
open Go Go.Sx Go.Lib Go.Sf
variable {N : Nat}
set_option maxHeartbeats 4000000 in
theorem qga : ∀ ds, Sorts qqW.sorts ds → qz7.vc (TI N) ds := by
 refine kU fun T => qx fun n => qx fun i => kU fun M => qx fun mm => zk ?_
 set_option linter.unusedSimpArgs false in
 simp (config := { maxSteps := 10000000 }) only [qz7, e23, p51, e86, e87, e88, e89, e335, aM, e461, e462, e463, e464, e465, e466, e467, e468, e470, e604, TY, e606, e607, e608, YJ, PW, qja, qjo, OA, ν, κ, ο, γ, ω, ρ, χ, π, δ, ξ, υ, α, μ, β, η, τ, sln, fn1, fn2, z0, Tree.vc, PE.den, E.den, qK, BO.ev, List.getElem?_cons_zero, List.getElem?_cons_succ, List.cons_append, List.nil_append, Option.some.injEq, D.i.injEq, D.t.injEq, exists_eq_left', exists_const, forall_const, forall_eq', qY, qX, qo, zero_eq, min_i64, max_i64, min_u8, max_u8, and_true, true_and, Decidable.not_not, P31, qzQ, P45, P46]
 intro i0 i1 hT m0 e he
 refine ⟨fun h => ?_, fun h => ?_⟩
 · have he : e = wM (T i 0) (qj (T i 1)) (qj (T i 2)) (T i 3) (T i 4) (T i 5) (T i 6) (T i 7) := he
   unfold F8
   rw [← he, tF h]
 · subst h
   have ho : OkP (T i 0) (T i 1) (T i 2) (T i 3) (T i 4) (T i 5) (T i 6) (T i 7) := he.symm
   have hF := okF ho
   have k1 := hF.k1
   have k13 := hF.k13
   have hc : ∀ q, F8 M mm (T i 0) (T i 1) (T i 2) (T i 3) (T i 4) (T i 5) (T i 6) (T i 7) q ↔ q = wS (InM M mm 1 (T i 1) 0) (InM M mm (kof (T i 0).toNat) (T i 1) (T i 2)) (T i 0) 0 := fun q => by
     unfold F8
     have ho : wM (T i 0) (qj (T i 1)) (qj (T i 2)) (T i 3) (T i 4) (T i 5) (T i 6) (T i 7) = 0 := ho
     rw [ho]
   simp only [M5 k1 k13, M4 k1 k13, qzl k1 k13, qqm m0, qqh m0, hc]
   clear he ho hF hT hc
   generalize InM M mm 1 (T i 1) 0 = A
   generalize InM M mm (kof (T i 0).toNat) (T i 1) (T i 2) = B
   generalize T i 0 = k at *
   have hA := qwZ k.toNat
   have hB := qwe k.toNat
   have c8 : (kar k.toNat = 1 ∧ A) ∨ (knm k.toNat = 1 ∧ B) → (8 : Int) = wS A B k 0 := fun h => (DC h).symm
   have c4 : ¬ ((kar k.toNat = 1 ∧ A) ∨ (knm k.toNat = 1 ∧ B)) → (kar k.toNat = 2 ∧ ¬ A) ∨ (knm k.toNat = 2 ∧ ¬ B) → (4 : Int) = wS A B k 0 := fun h h2 => (DL h h2).symm
   have c0 : ¬ ((kar k.toNat = 1 ∧ A) ∨ (knm k.toNat = 1 ∧ B)) → ¬ ((kar k.toNat = 2 ∧ ¬ A) ∨ (knm k.toNat = 2 ∧ ¬ B)) → (0 : Int) = wS A B k 0 := fun h h2 => (DU h h2).symm
   generalize wS A B k 0 = q at *
   generalize kar k.toNat = a at *
   generalize knm k.toNat = b at *
   refine ⟨by omega, by omega, ?_⟩
   clear k1 k13 i0 i1 m0
   have ha : a = 0 ∨ a = 1 ∨ a = 2 := by omega
   have hb : b = 0 ∨ b = 1 ∨ b = 2 := by omega
   clear hA hB
   rcases ha with rfl | rfl | rfl <;> rcases hb with rfl | rfl | rfl <;> by_cases hA : A <;> by_cases hB : B <;> simp [hA, hB] at c8 c4 c0 ⊢ <;> omega
theorem wX {L A K : Int} {T : Tb} {n : Int} (hn : ¬ 500 < n) (h : ¬ right L A K) : J6 L A K T n (-1) 7 := .inr (.inl ⟨by omega, h, rfl, rfl⟩)
set_option maxHeartbeats 4000000 in
theorem qzP : ∀ ds, Sorts (xD 14).sorts ds → Dj.vc (TI N) ds := by
 refine qx fun L => qx fun A => qx fun K => kU fun T => qx fun n => zk ?_
 set_option linter.unusedSimpArgs false in
 simp (config := { maxSteps := 10000000 }) only [Dj, e6, e10, e23, p51, p52, e62, p73, e79, e85, e86, e87, e88, e89, aC, e295, e418, e607, aH, aF, OO, e617, l7, e619, e620, e621, e622, VW, YX, e625, e626, e627, e628, YZ, qji, e631, qju, qjl, OI, ν, κ, ο, γ, ω, ρ, χ, π, δ, ξ, υ, α, μ, β, η, τ, sln, fn1, fn2, z0, Tree.vc, PE.den, E.den, qK, BO.ev, List.getElem?_cons_zero, List.getElem?_cons_succ, List.cons_append, List.nil_append, Option.some.injEq, D.i.injEq, D.t.injEq, exists_eq_left', exists_const, forall_const, forall_eq', qY, qX, qo, zero_eq, min_i64, max_i64, min_u8, max_u8, and_true, true_and, Decidable.not_not, qgg, qzQ, qgx, P44, P45, P46, P47]
 intro n0 _ hT _ _ _
 refine ⟨fun h => .inl ⟨h, rfl, rfl⟩, fun h5 => ⟨fun L0 => ⟨fun L1 => ⟨fun A0 => ⟨fun A1 => ⟨fun K0 => ⟨fun K1 => wX h5 (by unfold right; omega), fun K1 => ⟨Rm T, fun i M mm i0 i1 m0 hM => ⟨fun hi e he => ⟨fun h => ?_, fun h => ?_⟩, fun hi => ?_⟩⟩⟩, fun K0 => wX h5 (by unfold right; omega)⟩, fun A1 => wX h5 (by unfold right; omega)⟩, fun A0 => wX h5 (by unfold right; omega)⟩, fun L1 => wX h5 (by unfold right; omega)⟩, fun L0 => wX h5 (by unfold right; omega)⟩⟩
 · have ha := Ka hM he
   exact ⟨by omega, by omega, .inr (.inr ⟨by omega, ⟨⟨L0, L1⟩, ⟨A0, A1⟩, ⟨K0, K1⟩⟩, .inr ⟨i0, hi, h, ha, hM.1⟩⟩)⟩
 · subst h
   have ha := (Ka hM he).symm
   have ho : OkP (T i 0) (T i 1) (T i 2) (T i 3) (T i 4) (T i 5) (T i 6) (T i 7) := Kc ha
   have hF := okF ho
   have k1 := hF.k1
   have k13 := hF.k13
   simp only [M5 k1 k13, M4 k1 k13, qzl k1 k13]
   have mA := qwc i0 m0 hM ha
   have mN := qwt i0 m0 hM ha
   have m_ := map_none i0 hM ha
   have hx : ¬ (kar (T i 0).toNat = 1 ∧ knm (T i 0).toNat = 1) := fun ⟨h1, h2⟩ => by
     have := qzv h1
     have := qzy h2
     omega
   refine ⟨by omega, by omega, ?_⟩
   clear ho hF he k1 k13 ha hM
   have hc : ∀ p : Prop, [Decidable p] → 0 ≤ (if p then mm else mm + 1) := fun p _ => by split <;> omega
   repeat' with_reducible first | apply And.intro | intro _
   all_goals first
     | exact absurd ⟨by omega, by omega⟩ hx
     | omega
     | exact hc _
     | exact mA (by omega)
     | exact mN (by omega)
     | exact m_ (by omega) (by omega)
 · have : i = n := by omega
   subst this
   exact .inr (.inr ⟨by omega, ⟨⟨L0, L1⟩, ⟨A0, A1⟩, ⟨K0, K1⟩⟩, .inl ⟨rfl, rfl, hM.1⟩⟩)
end Go.Tt
namespace Go.Tt
open Go Go.Sx Go.Lib Go.Sf
variable {N : Nat}
theorem Ro {T : Tb} {ws : List (List UInt8)} {n sep : Int} (h : jh T ws n) : kG T n sep = qZ (Lib.join ws (qj sep)) := by
 obtain ⟨rfl, h2⟩ := h
 unfold kG
 congr 2
 apply List.ext_getElem?
 intro i
 rw [Int.toNat_natCast]
 rcases Nat.lt_or_ge i ws.length with hi | hi
 · rw [List.getElem?_map, List.getElem?_range hi, List.getElem?_eq_getElem hi]
   simp only [Option.map_some]
   rw [h2 i _ (List.getElem?_eq_getElem hi), qm]
 · rw [List.getElem?_eq_none hi, List.getElem?_eq_none (by simpa using hi)]
theorem Pj {T : Tb} {ws : List (List UInt8)} {n sep : Int} (h : jh T ws n) (hn : ws.length ≤ 1000) (hs : qy sep ≤ 1000) (hl : ∀ w ∈ ws, w.length ≤ 1000) : Short T n sep := by
 obtain ⟨rfl, h2⟩ := h
 refine ⟨by omega, hs, fun r hr => ?_⟩
 have hr' : r < ws.length := by omega
 rw [h2 r _ (List.getElem?_eq_getElem hr'), zP]
 have := hl _ (List.getElem_mem hr')
 omega
theorem Ep {T : Tb} {ws : List (List UInt8)} {n : Int} (h : jh T ws n) (hne : ws ≠ []) : QJ (kG T n (-6)) (-6) = qZ (jm ws) ∧ qy (kG T n (-6)) + 1 = ((jm ws).length : Nat) := by
 have hj := Ro (sep := -6) h
 rw [Yz] at hj
 have e := Gy hne
 rw [hj]
 constructor
 · rw [← e, YE, vJ]
 · rw [zP, ← e]
   simp
set_option maxHeartbeats 4000000 in
theorem qzF : ∀ ds, Sorts (pW 11).sorts ds → BI.vc (TI N) ds := by
 refine qx fun L => qx fun A => qx fun K => kU fun T => qx fun n => zk ?_
 set_option linter.unusedSimpArgs false in
 simp (config := { maxSteps := 10000000 }) only [BI, e6, p51, p52, e83, e242, dz, e297, aH, aF, VW, P5, e636, OU, e638, e639, e640, e641, e642, e643, e644, ν, κ, ο, γ, ω, ρ, χ, π, δ, ξ, υ, α, μ, β, η, τ, sln, fn1, fn2, z0, Tree.vc, PE.den, E.den, qK, BO.ev, List.getElem?_cons_zero, List.getElem?_cons_succ, List.cons_append, List.nil_append, Option.some.injEq, D.i.injEq, D.t.injEq, exists_eq_left', exists_const, forall_const, forall_eq', qY, qX, qo, zero_eq, min_i64, max_i64, min_u8, max_u8, and_true, true_and, Decidable.not_not, S3, S5, zH, K7, P30, P32, P43, P44, P45, P63, P64]
 intro n0 _ hT hL hA hK st e _ _ hc
 refine ⟨fun h => ⟨by rw [vH]; omega, ⟨st, hc⟩, fun h0 => absurd h0 h, fun _ => rfl⟩, fun h => ?_⟩
 subst h
 obtain ⟨h5, hr, ho, rfl⟩ := XZ hc
 have hb := wL hL hA hK
 refine ⟨Qa KY (by simp) fun w hw => ?_, ?_, fun i U m i0 i1 m0 m1 hI => ⟨fun hi => ⟨QV ho i0 hi, fun s hs hl => ⟨by omega, by omega, by omega, by omega, by omega, by omega, ?_, by omega, by omega⟩⟩, fun hi => ?_⟩⟩
 · have := (hb w hw).2.1
   omega
 · rw [RV]
   exact qxp rfl
 · have e1 : (i + 1).toNat = i.toNat + 1 := by omega
   have hs := hs (QV ho i0 hi)
   unfold PrI
   rw [e1, Km]
   refine qq2 hI ?_ _ rfl
   rw [show ((i.toNat : Nat) : Int) = i by omega]
   exact hs
 · have e1 : i = n := by omega
   subst e1
   have hm := TP hL hA hK ho hT.1 (i := i.toNat) (by omega)
   have hlen := TS L A K T i.toNat
   obtain ⟨g1, g2⟩ := Ep hI (Ah L A K T i.toNat)
   have g3 := VA fun l hl => (hm l hl).2
   refine ⟨Pj hI (by omega) (by decide) fun w hw => by have := (hm w hw).2; omega, by omega, ?_, ⟨0, hc⟩, fun _ => g1, fun h => absurd rfl h⟩
   rw [g1, zP]
   omega
theorem MG : ∀ {ls : List (List UInt8)} {x : List UInt8}, x ∈ ls → x.length ≤ (jm ls).length
 | l :: ls, x, h => by
   rw [kC, List.length_append, List.length_cons]
   rcases List.mem_cons.1 h with rfl | h
   · omega
   · have := MG h; omega
theorem ML {s : Int} : ¬ Fu s (-6) = 0 ↔ ∃ u, qj s = u ++ [10] := by
 unfold Fu
 rw [Yz, ← NK]
 split
 · exact ⟨fun _ => by assumption, fun _ => by decide⟩
 · exact ⟨fun h => absurd rfl h, fun h => absurd h (by assumption)⟩
theorem LW {u : List UInt8} {s : Int} (h : qj s = u ++ [10]) : WI (jZ s 0 (qy s - 1)) (-6) = (fun r _ => qZ ((Lib.split u [10]).getD r.toNat [])) ∧ Qi (jZ s 0 (qy s - 1)) (-6) = ((Lib.split u [10]).length : Nat) := by
 have hs : qj (jZ s 0 (qy s - 1)) = u := by
   rw [kP]
   unfold qy
   rw [h]
   simp
 unfold WI Qi
 rw [hs, Yz]
 exact ⟨rfl, rfl⟩
theorem qzM : ∀ ds, Sorts (pX 29).sorts ds → Dq.vc (TI N) ds := by
 refine qx fun s => zk ?_
 set_option linter.unusedSimpArgs false in
 simp (config := { maxSteps := 10000000 }) only [Dq, e0, e1, e6, e32, JN, PK, OL, e647, e648, e649, ν, κ, ο, γ, ω, ρ, χ, π, δ, ξ, υ, α, μ, β, η, τ, sln, fn1, fn2, z0, Tree.vc, PE.den, E.den, qK, BO.ev, List.getElem?_cons_zero, List.getElem?_cons_succ, List.cons_append, List.nil_append, Option.some.injEq, D.i.injEq, D.t.injEq, exists_eq_left', exists_const, forall_const, forall_eq', qY, qX, qo, zero_eq, min_i64, max_i64, min_u8, max_u8, and_true, true_and, Decidable.not_not, S6, S7, zH, K6, S13, S14, P23, P61]
 intro hs
 have z : ∀ r : Int, 0 ≤ r → r < 0 → qy 0 ≤ 100000 := fun r h0 h1 => by omega
 refine ⟨fun h => by omega, fun _ => ⟨fun h => ⟨z, ?_⟩, fun h0 => ⟨by omega, fun h => ⟨z, ?_⟩, fun h => ?_⟩⟩⟩
 · subst h
   exact .inl ⟨[], (fun l hl => absurd hl (by simp)), rfl, .inl ⟨by decide, rfl, rfl, fun r w hr => by simp at hr⟩⟩
 · refine .inr ⟨fun ls hls e => ?_, rfl, rfl⟩
   by_cases hne : ls = []
   · subst hne
     exact h0 (wu (by rw [e]; rfl))
   · obtain ⟨u, hu⟩ := Zu hne
     exact ML.2 ⟨u, by rw [e, hu]⟩ h
 · obtain ⟨u, hu⟩ := ML.1 h
   obtain ⟨g1, g2, g3, g4⟩ := Db u.length u rfl
   obtain ⟨e1, e2⟩ := LW hu
   have hc : RO s 10 = ((Lib.split u [10]).length : Nat) := by
     unfold RO
     rw [hu, g4]
     simp
   have hl : qy s = (u.length : Nat) + 1 := by unfold qy; rw [hu]; simp
   have hsub : qy (jZ s 0 (qy s - 1)) ≤ qy s := (yB _ _ _).2
   refine ⟨fun h5 => ⟨z, .inl ⟨_, g1, by rw [hu, g3], .inr ⟨by omega, rfl, rfl⟩⟩⟩, fun h5 => ⟨by omega, by omega, by omega, by omega, by decide, fun f n _ _ hn => ⟨by omega, fun r r0 r1 => ?_, .inl ⟨_, g1, by rw [hu, g3], .inl ⟨by omega, rfl, e2, fun r w hr => ?_⟩⟩⟩⟩⟩
   · rw [e1, zP]
     rw [e2] at r1
     have hr : r.toNat < (Lib.split u [10]).length := by omega
     have hm : (Lib.split u [10]).getD r.toNat [] ∈ Lib.split u [10] := by
       rw [List.getD_eq_getElem?_getD, List.getElem?_eq_getElem hr]
       exact List.getElem_mem hr
     have : ((Lib.split u [10]).getD r.toNat []).length ≤ (jm (Lib.split u [10])).length := MG hm
     rw [g3, List.length_append, List.length_singleton] at this
     omega
   · rw [e1]
     show qZ ((Lib.split u [10]).getD ((r : Nat) : Int).toNat []) = qZ w
     rw [Int.toNat_natCast, List.getD_eq_getElem?_getD, hr]
     rfl
end Go.Tt
namespace Go.Tt
open Go Go.Sx Go.Lib Go.Sf
variable {N : Nat}
section
variable {s : Int} {T : Tb} {n e w lo1 n1 b0 b1 x lo2 n2 b2 y lo3 n3 b3 z lo4 n4 b4 : Int}
theorem Zy {lo m b v lo' m' : Int} (h : dF T lo m b v lo' m' 0) : 0 < m ∧ T lo 0 = 0 ∧ lo' = lo + 1 ∧ m' = m - 1 ∧ b = 0 ∧ I64 v ∧ qj (T lo 1) = itoa v := by
 obtain ⟨q, c, e, hF, hI, hb⟩ := h
 have hc : c = 0 ∧ e = 0 := Classical.byContradiction fun hn => by
   rw [if_pos (by omega)] at hb
   cases hb
 obtain ⟨rfl, rfl⟩ := hc
 rcases hF with ⟨g1, g2, rfl, g4, g5, g6⟩ | ⟨_, _, _, _, g⟩
 · rcases hI with ⟨_, h1, h2⟩ | ⟨h1, _⟩
   · exact ⟨g1, g2, g4, g5, g6.symm, h1, h2⟩
   · exact absurd rfl h1
 · cases g
theorem UJ (hS : yX s T n 0) (hF : yK T 0 n 0 w lo1 n1 b0) (hb : b1 = if w = 16241110417912119 then 0 else 1) (h1 : dF T lo1 n1 b1 x lo2 n2 b2) (h2 : dF T lo2 n2 b2 y lo3 n3 b3) (h3 : dF T lo3 n3 b3 z lo4 n4 0) (hn : n4 = 0) :
   I64 x ∧ I64 y ∧ I64 z ∧ qj s = headW x y z := by
 obtain ⟨c1, c2, c3, c4, rfl, c6, c7⟩ := Zy h3
 obtain ⟨d1, d2, d3, d4, rfl, d6, d7⟩ := Zy h2
 obtain ⟨e1, e2, e3, e4, rfl, e6, e7⟩ := Zy h1
 have hw : w = 16241110417912119 := Classical.byContradiction fun hw => by rw [if_neg hw] at hb; cases hb
 rcases hF with ⟨f1, f2, f3, f4, f5, _⟩ | ⟨_, f2, _⟩
 · subst f4; subst f5; subst e3; subst e4; subst d3; subst d4
   have hn4 : n = 4 := by omega
   subst hn4
   have hz : ∀ r : Nat, (r : Int) < 4 → T r 0 = 0 := fun r hr => by
     have : r = 0 ∨ r = 1 ∨ r = 2 ∨ r = 3 := by omega
     rcases this with rfl | rfl | rfl | rfl <;> assumption
   obtain ⟨ws, hB, _, hl, hj, hR⟩ := hS.2 rfl hz
   match ws, hl with
   | [w0, w1, w2, w3], _ =>
     have g0 := (hR 0 (by decide)).2 w0 rfl
     have g1 := (hR 1 (by decide)).2 w1 rfl
     have g2 := (hR 2 (by decide)).2 w2 rfl
     have g3 := (hR 3 (by decide)).2 w3 rfl
     have k0 : w0 = mJ := by
       have : qZ w0 = qZ mJ := by rw [← g0, ← bM, ← hw, f3]; rfl
       have := congrArg qj this
       rwa [qm, qm] at this
     have k1 : w1 = itoa x := by rw [← e7]; show w1 = qj (T ((1 : Nat) : Int) 1); rw [g1, qm]
     have k2 : w2 = itoa y := by rw [← d7]; show w2 = qj (T ((2 : Nat) : Int) 1); rw [g2, qm]
     have k3 : w3 = itoa z := by rw [← c7]; show w3 = qj (T ((3 : Nat) : Int) 1); rw [g3, qm]
     refine ⟨e6, d6, c6, ?_⟩
     rw [hj, k0, k1, k2, k3]; rfl
 · subst f2
   exact absurd hw (by decide)
theorem DR {lo m v lo' m' b' L : Int} (h : dF T lo m 0 v lo' m' b') (hm : 0 < m) (h0 : T lo 0 = 0) (hL : I64 L) (hT : T lo 1 = qZ (itoa L)) : v = L ∧ lo' = lo + 1 ∧ m' = m - 1 ∧ b' = 0 := by
 obtain ⟨q, c, e, hF, hI, hb⟩ := h
 rcases hF with ⟨g1, g2, rfl, g4, g5, g6⟩ | ⟨g, _⟩
 · rcases hI with ⟨he, h1, h2⟩ | ⟨_, h2⟩
   · rw [hT, qm] at h2
     subst g6; subst he
     exact ⟨(jP hL h1 h2).symm, g4, g5, by rw [hb, if_neg (by omega)]⟩
   · exact absurd (by rw [hT, qm]) (h2 L hL)
 · exact absurd ⟨hm, h0⟩ g
theorem Gm (hS : yX s T n e) (hF : yK T 0 n 0 w lo1 n1 b0) (hb : b1 = if w = 16241110417912119 then 0 else 1) (h1 : dF T lo1 n1 b1 x lo2 n2 b2) (h2 : dF T lo2 n2 b2 y lo3 n3 b3) (h3 : dF T lo3 n3 b3 z lo4 n4 b4) (hn : ¬ (b4 = 0 ∧ n4 = 0)) :
   ∀ L A K, I64 L → I64 A → I64 K → qj s ≠ headW L A K := fun L A K hL hA hK hs => by
 have hl := uW hL hA hK
 obtain ⟨_, h4, hR⟩ := hS.1 [mJ, itoa L, itoa A, itoa K] (wL hL hA hK) (by simp) (by unfold qy; rw [hs]; omega) hs
 have h4 : n = 4 := h4
 subst h4
 have g0 := hR 0 (by decide)
 have g1 := hR 1 (by decide)
 have g2 := hR 2 (by decide)
 have g3 := hR 3 (by decide)
 have hw : w = 16241110417912119 ∧ lo1 = 1 ∧ n1 = 3 := by
   rcases hF with ⟨f1, f2, f3, f4, f5, _⟩ | ⟨f, _⟩
   · refine ⟨?_, f4, f5⟩
     rw [f3, bM]; exact g0.2 _ rfl
   · exact absurd ⟨by decide, g0.1⟩ f
 obtain ⟨hw, rfl, rfl⟩ := hw
 rw [if_pos hw] at hb
 subst hb
 obtain ⟨_, rfl, rfl, rfl⟩ := DR h1 (by decide) g1.1 hL (g1.2 _ rfl)
 obtain ⟨_, rfl, rfl, rfl⟩ := DR h2 (by decide) g2.1 hA (g2.2 _ rfl)
 obtain ⟨_, _, h5, h6⟩ := DR h3 (by decide) g3.1 hK (g3.2 _ rfl)
 exact hn ⟨h6, by omega⟩
theorem UW (hS : yX s T n e) (he : ¬ e = 0) : ∀ L A K, I64 L → I64 A → I64 K → qj s ≠ headW L A K := fun L A K hL hA hK hs => by
 have hl := uW hL hA hK
 exact he (hS.1 [mJ, itoa L, itoa A, itoa K] (wL hL hA hK) (by simp) (by unfold qy; rw [hs]; omega) hs).1
end
def iX (T : Tb) (q v0 v1 v2 v3 v4 v5 v6 v7 : Int) : Tb := qg (qg (qg (qg (qg (qg (qg (qg T q 0 v0) q 1 v1) q 2 v2) q 3 v3) q 4 v4) q 5 v5) q 6 v6) q 7 v7
section
variable {T U : Tb} {q v0 v1 v2 v3 v4 v5 v6 v7 s : Int}
theorem zR {r : Int} (h : r ≠ q) (c : Nat) : iX T q v0 v1 v2 v3 v4 v5 v6 v7 r c = T r c := by simp [iX, qg, h]
theorem Mw : iX T q v0 v1 v2 v3 v4 v5 v6 v7 q 0 = v0 ∧ iX T q v0 v1 v2 v3 v4 v5 v6 v7 q 1 = v1 ∧ iX T q v0 v1 v2 v3 v4 v5 v6 v7 q 2 = v2 ∧ iX T q v0 v1 v2 v3 v4 v5 v6 v7 q 3 = v3 ∧ iX T q v0 v1 v2 v3 v4 v5 v6 v7 q 4 = v4 ∧ iX T q v0 v1 v2 v3 v4 v5 v6 v7 q 5 = v5 ∧ iX T q v0 v1 v2 v3 v4 v5 v6 v7 q 6 = v6 ∧ iX T q v0 v1 v2 v3 v4 v5 v6 v7 q 7 = v7 := by
 simp [iX, qg]
theorem Ht (h : Ie T q) (h0 : I64 v0) (h1 : qy v1 ≤ 100000) (h2 : qy v2 ≤ 100000) (h3 : I64 v3) (h4 : I64 v4) (h5 : I64 v5) (h6 : I64 v6) (h7 : I64 v7) : Ie (iX T q v0 v1 v2 v3 v4 v5 v6 v7) (q + 1) := by
 obtain ⟨g0, g1, g2, g3, g4, g5, g6, g7⟩ := @Mw T q v0 v1 v2 v3 v4 v5 v6 v7
 refine ⟨fun r r0 r1 => ?_, fun r r0 r1 => ?_⟩
 · by_cases e : r = q
   · subst e; rw [g0, g3, g4, g5, g6, g7]; exact ⟨h0, h3, h4, h5, h6, h7⟩
   · rw [zR e, zR e, zR e, zR e, zR e, zR e]; exact h.1 r r0 (by omega)
 · by_cases e : r = q
   · subst e; rw [g1, g2]; exact ⟨h1, h2⟩
   · rw [zR e, zR e]; exact h.2 r r0 (by omega)
theorem VJ (h : IJ U T q) (hk : 0 ≤ v0) (hl : gK (U (q + 1) 0) (stp v0 v1 v2 v3 v4 v5 v6 v7)) : IJ U (iX T q v0 v1 v2 v3 v4 v5 v6 v7) (q + 1) := fun r hr => by
 obtain ⟨g0, g1, g2, g3, g4, g5, g6, g7⟩ := @Mw T q v0 v1 v2 v3 v4 v5 v6 v7
 by_cases e : (r : Int) = q
 · unfold spR
   rw [e, g0, g1, g2, g3, g4, g5, g6, g7]
   exact ⟨hk, hl⟩
 · unfold spR
   rw [zR e, zR e, zR e, zR e, zR e, zR e, zR e, zR e]
   exact h r (by omega)
theorem Ke {k a m x y z w n b : Int} (h : jL s k a m x y z w n b) (hb : ¬ b = 0) : 0 ≤ k ∧ gK s (stp k a m x y z w n) := by
 rcases h with ⟨_, h0, h1, h2, h3⟩ | ⟨h, _⟩
 · exact ⟨h0, h1, h2, h3⟩
 · exact absurd h hb
theorem V3 {k a m x y z w n b : Int} (h : jL s k a m x y z w n b) (hb : b = 0) : ∀ t, ¬ gK s t := fun t ht => by
 rcases h with ⟨h, _⟩ | ⟨_, h⟩
 · exact h hb
 · exact h t ht.1 ht.2.1 ht.2.2
end
theorem iY {U : Tb} {h : List UInt8} {tl : List (List UInt8)} {n : Int} (hR : jh U (h :: tl) n) {r : Nat} {l : List UInt8} (hl : tl[r]? = some l) : U ((r : Int) + 1) 0 = qZ l := by
 have := hR.2 (r + 1) l (by simpa using hl)
 rwa [show (((r + 1 : Nat)) : Int) = (r : Int) + 1 by omega] at this
theorem bU {U T : Tb} {h : List UInt8} {tl : List (List UInt8)} {n q : Int} (hR : jh U (h :: tl) n) (hP : IJ U T q) {k : Nat} (hk : (k : Int) ≤ q) : Bl T (tl.take k) := fun r l hl => by
 rw [List.getElem?_take] at hl
 split at hl
 · have := hP r (by omega)
   rwa [iY hR hl] at this
 · cases hl
theorem z3 : aV 0 0 0 0 := ⟨rfl, rfl, rfl, rfl⟩
theorem tb0 : Ie (fun _ _ => 0) 0 := ⟨fun r _ _ => by omega, fun r _ _ => by omega⟩
set_option maxHeartbeats 4000000 in
theorem qzH : ∀ ds, Sorts (pY 12).sorts ds → BA.vc (TI N) ds := by
 refine qx fun s => zk ?_
 set_option linter.unusedSimpArgs false in
 simp (config := { maxSteps := 10000000 }) only [BA, e0, e1, e6, e23, e38, e43, p68, p69, p70, e71, e83, aC, yM, e242, dz, xX, l8, e258, aR, e290, VX, e354, tV, e640, AZ, PO, OC, Vl, e654, e655, e656, ν, κ, ο, γ, ω, ρ, χ, π, δ, ξ, υ, α, μ, β, η, τ, sln, fn1, fn2, z0, Tree.vc, PE.den, E.den, qK, BO.ev, List.getElem?_cons_zero, List.getElem?_cons_succ, List.cons_append, List.nil_append, Option.some.injEq, D.i.injEq, D.t.injEq, exists_eq_left', exists_const, forall_const, forall_eq', qY, qX, qo, zero_eq, min_i64, max_i64, min_u8, max_u8, and_true, true_and, Decidable.not_not, zH, P16, P22, P33, P34, P38, P23, P44, P45, P61, P66, P72]
 intro hs U n e n0 hU hL
 refine ⟨fun he => ⟨tb0, ?_⟩, fun he => ?_⟩
 · rcases hL with ⟨ls, h1, h2, ⟨h3, h4, h5⟩ | ⟨h3, h4, h5⟩⟩ | ⟨h1, h2, h3⟩
   · exact absurd h4 he
   · exact .inr (.inr (.inr (.inl ⟨ls, h1, h2, h3, h4, z3, rfl⟩)))
   · exact .inr (.inr (.inr (.inr ⟨h1, h2, z3, rfl⟩)))
 subst he
 obtain ⟨ls, h1, h2, h3, hR⟩ : ∃ ls, pO ls ∧ qj s = jm ls ∧ ls.length ≤ 5000 ∧ jh U ls n := by
   rcases hL with ⟨ls, h1, h2, ⟨h3, h4, h5⟩ | ⟨h3, h4, h5⟩⟩ | ⟨h1, h2, h3⟩
   · exact ⟨ls, h1, h2, h3, h5⟩
   · cases h4
   · cases h2
 cases ls with
 | nil =>
   have : n = 0 := hR.1
   subst this
   exact ⟨fun _ => ⟨tb0, .inr (.inr (.inl ⟨[], h1, h2, h3, fun h hh => by simp at hh, rfl, z3, rfl⟩))⟩, fun h => absurd rfl h⟩
 | cons h0 tl =>
   have hn : n = (tl.length : Nat) + 1 := by have := hR.1; simpa using this
   have hU0 : U 0 0 = qZ h0 := hR.2 0 h0 rfl
   have hd : qj (U 0 0) = h0 := by rw [hU0, qm]
   have htl : tl.length < 5000 := by rw [List.length_cons] at h3; omega
   have bad : (∀ L A K, I64 L → I64 A → I64 K → qj (U 0 0) ≠ headW L A K) → oG s 0 0 0 (fun _ _ => 0) 0 1 6 := fun hb => by
     refine .inr (.inr (.inl ⟨h0 :: tl, h1, h2, h3, fun h hh L A K hL hA hK e => hb L A K hL hA hK ?_, rfl, z3, rfl⟩))
     simp at hh
     rw [hd, hh, e]
   refine ⟨fun h => by omega, fun _ => ⟨by omega, hU 0 (by omega) (by omega), fun F q e q0 q1 _ hS => ⟨fun he => ⟨tb0, bad (UW hS he)⟩, fun he => ⟨by omega, fun w lo1 n1 b0 _ _ _ _ hF x lo2 n2 b2 hx _ _ _ hX y lo3 n3 b3 hy _ _ _ hY z lo4 n4 b4 hz _ _ _ hZ => ⟨fun hb4 => ⟨fun hn4 => ⟨tb0, bad (Gm hS hF rfl hX hY hZ (fun h => hn4 h.2))⟩, fun hn4 => ?_⟩, fun hb4 => ⟨tb0, bad (Gm hS hF rfl hX hY hZ (fun h => hb4 h.1))⟩⟩⟩⟩⟩⟩
   subst he; subst hb4
   obtain ⟨ix, iy, iz, hh⟩ := UJ hS hF rfl hX hY hZ hn4
   rw [hd] at hh
   refine ⟨by omega, by omega, by omega, tb0, fun r hr => by omega, fun i T m i0 i1 m1 m2 hT hP => ⟨fun hi => ⟨by omega, by omega, hU _ (by omega) (by omega), fun k a m' x' y' z' w' n' b hk ha hm hx' hy' hz' hw' hn' hW => ⟨fun hb => ⟨by omega, ?_⟩, fun hb => ?_⟩⟩, fun hi => ⟨by omega, by omega, fun st e st0 st1 hC => ⟨fun he => ⟨by omega, ?_⟩, fun he => ?_⟩⟩⟩⟩
   · have hil : i.toNat < tl.length := by omega
     have hl : tl[i.toNat]? = some tl[i.toNat] := List.getElem?_eq_getElem hil
     have hUl := iY hR hl
     rw [show ((i.toNat : Nat) : Int) + 1 = 1 + i by omega] at hUl
     refine .inr (.inl ⟨h0, tl, i.toNat, h1, h2, htl, ⟨x, y, z, ix, iy, iz, hh⟩, ⟨T, bU hR hP (by omega)⟩, ⟨_, hl, fun t => ?_⟩, rfl, z3, by omega⟩)
     rw [← hUl]
     exact V3 hW hb t
   · obtain ⟨k0, hl⟩ := Ke hW hb
     have hmi : m = i := by omega
     subst hmi
     rw [show 1 + m = m + 1 by omega] at hl
     exact ⟨by omega, by omega, by omega, by omega, by omega, by omega, Ht hT hk ha hm hx' hy' hz' hw' hn', VJ hP k0 hl, by omega, by omega⟩
   · have hm : m = (tl.length : Nat) := by omega
     have hRL := bU hR hP (k := tl.length) (by omega)
     rw [List.take_length] at hRL
     rw [hm] at hC
     exact .inl ⟨h0, tl, st, h1, h2, htl, x, y, z, T, ix, iy, iz, hh, hRL, hC, .inr ⟨he, z3, rfl⟩⟩
   · subst he
     have hm : m = (tl.length : Nat) := by omega
     have hRL := bU hR hP (k := tl.length) (by omega)
     rw [List.take_length] at hRL
     rw [hm] at hC
     have h5 := (XZ hC).1
     exact ⟨by omega, .inl ⟨h0, tl, st, h1, h2, htl, x, y, z, T, ix, iy, iz, hh, hRL, hC, .inl ⟨rfl, rfl, rfl, rfl, hm, fun r _ c _ => rfl, rfl⟩⟩⟩
end Go.Tt
namespace Go.Tt
open Go Go.Sx Go.Lib Go.Sf
variable {N : Nat}
theorem qyE : ∀ ds, Sorts Ny.sorts ds → SI.vc (TI N) ds := by
 refine kU fun T => qx fun m => qx fun n => qx fun a => zk ?_
 set_option linter.unusedSimpArgs false in
 simp (config := { maxSteps := 10000000 }) only [SI, e23, p51, e58, Ak, aM, VK, PI, qjt, ν, κ, ο, γ, ω, ρ, χ, π, δ, ξ, υ, α, μ, β, η, τ, sln, fn1, fn2, z0, Tree.vc, PE.den, E.den, qK, BO.ev, List.getElem?_cons_zero, List.getElem?_cons_succ, List.cons_append, List.nil_append, Option.some.injEq, D.i.injEq, D.t.injEq, exists_eq_left', exists_const, forall_const, forall_eq', qY, qX, qo, zero_eq, min_i64, max_i64, min_u8, max_u8, and_true, true_and, Decidable.not_not, P45, P50, P51]
 intro h0 h1 h2 hT
 have nx : ∀ i, 0 ≤ i → ¬ Made T i a → ¬ (T i 0 = 1 ∧ T i 1 = a) → ¬ Made T (i + 1) a := fun i i0 h g e => ((rV i0).1 e).elim h g
 refine ⟨fun ⟨j, j0, j1, _⟩ => by omega, fun i i0 i1 hM => ⟨fun hi => ⟨by omega, fun hk => ⟨fun ha => ⟨fun _ => ⟨i, i0, hi, hk, ha⟩, fun _ => by decide⟩, fun ha => ⟨by omega, by omega, by omega, nx i i0 hM fun g => ha g.2, by omega, by omega⟩⟩, fun hk => ⟨by omega, by omega, by omega, nx i i0 hM fun g => hk g.1, by omega, by omega⟩⟩, fun hi => ?_⟩⟩
 have : i = n := by omega
 subst this
 exact ⟨fun h => absurd rfl h, fun h => absurd h hM⟩
theorem qy2 : ∀ ds, Sorts Ng.sorts ds → Tq.vc (TI N) ds := by
 refine kU fun T => qx fun m => qx fun n => qx fun k => qx fun a => qx fun b => zk ?_
 set_option linter.unusedSimpArgs false in
 simp (config := { maxSteps := 10000000 }) only [Tq, e23, e28, p72, e350, aM, VK, PI, OP, ν, κ, ο, γ, ω, ρ, χ, π, δ, ξ, υ, α, μ, β, η, τ, sln, fn1, fn2, z0, Tree.vc, PE.den, E.den, qK, BO.ev, List.getElem?_cons_zero, List.getElem?_cons_succ, List.cons_append, List.nil_append, Option.some.injEq, D.i.injEq, D.t.injEq, exists_eq_left', exists_const, forall_const, forall_eq', qY, qX, qo, zero_eq, min_i64, max_i64, min_u8, max_u8, and_true, true_and, Decidable.not_not, P45, P52, P53]
 intro h0 h1 h2 hT
 have nx : ∀ i, 0 ≤ i → ¬ Has T i k a b → ¬ (T i 0 = k ∧ T i 1 = a ∧ T i 2 = b) → ¬ Has T (i + 1) k a b := fun i i0 h g e => ((uY i0).1 e).elim h g
 refine ⟨fun ⟨j, j0, j1, _⟩ => by omega, fun i i0 i1 hM => ⟨fun hi => ⟨by omega, fun hk => ⟨fun ha => ⟨fun hb => ⟨by omega, by omega, fun _ => ⟨i, i0, hi, hk, ha, hb⟩, fun _ => i0⟩, fun hb => ⟨by omega, by omega, by omega, nx i i0 hM fun g => hb g.2.2, by omega, by omega⟩⟩, fun ha => ⟨by omega, by omega, by omega, nx i i0 hM fun g => ha g.2.1, by omega, by omega⟩⟩, fun hk => ⟨by omega, by omega, by omega, nx i i0 hM fun g => hk g.1, by omega, by omega⟩⟩, fun hi => ?_⟩⟩
 have : i = n := by omega
 subst this
 exact ⟨by omega, fun h => by omega, fun h => absurd h hM⟩
theorem I6 : ∀ ds, Sorts (xD 15).sorts ds → WX.vc (TI N) ds := by
 refine qx fun L => qx fun A => qx fun K => kU fun T => qx fun n => zk ?_
 set_option linter.unusedSimpArgs false in
 simp (config := { maxSteps := 10000000 }) only [WX, e1, e6, e10, e23, p51, p52, e62, e79, e83, e85, aC, aH, aF, OO, e617, l7, e619, e620, e621, e622, VW, YX, YZ, OI, P5, ν, κ, ο, γ, ω, ρ, χ, π, δ, ξ, υ, α, μ, β, η, τ, sln, fn1, fn2, z0, Tree.vc, PE.den, E.den, qK, BO.ev, List.getElem?_cons_zero, List.getElem?_cons_succ, List.cons_append, List.nil_append, Option.some.injEq, D.i.injEq, D.t.injEq, exists_eq_left', exists_const, forall_const, forall_eq', qY, qX, qo, zero_eq, min_i64, max_i64, min_u8, max_u8, and_true, true_and, Decidable.not_not, zH, P44, P45, P48, P49]
 intro n0 _ hT _ _ _
 refine ⟨fun h => .inl ⟨h, rfl, rfl⟩, fun h5 => ⟨fun L0 => ⟨fun L1 => ⟨fun A0 => ⟨fun A1 => ⟨fun K0 => ⟨fun K1 => wX h5 (by unfold right; omega), fun K1 => ⟨fun j _ _ => by omega, fun i i0 i1 hO => ⟨fun hi => ?_, fun hi => ?_⟩⟩⟩, fun K0 => wX h5 (by unfold right; omega)⟩, fun A1 => wX h5 (by unfold right; omega)⟩, fun A0 => wX h5 (by unfold right; omega)⟩, fun L1 => wX h5 (by unfold right; omega)⟩, fun L0 => wX h5 (by unfold right; omega)⟩⟩
 · obtain ⟨b0, b3, b4, b5, b6, b7⟩ := hT.1 i i0 hi
   obtain ⟨b1, b2⟩ := hT.2 i i0 hi
   refine ⟨by omega, b0, b1, b2, b3, b4, b5, b6, b7, fun e he => ⟨fun h => ⟨by omega, by omega, .inr (.inr ⟨by omega, ⟨⟨L0, L1⟩, ⟨A0, A1⟩, ⟨K0, by omega⟩⟩, .inr ⟨i0, hi, h, he, hO⟩⟩)⟩, fun h => ⟨by omega, by omega, by omega, uz hO ?_, by omega, by omega⟩⟩⟩
   exact he.symm.trans h
 · have : i = n := by omega
   subst this
   exact .inr (.inr ⟨by omega, ⟨⟨L0, L1⟩, ⟨A0, A1⟩, ⟨K0, by omega⟩⟩, .inl ⟨rfl, rfl, hO⟩⟩)
theorem qzD : ∀ ds, Sorts (aY 17).sorts ds → BU.vc (TI N) ds := by
 refine qx fun k => qx fun a => qx fun m => qx fun x => qx fun y => qx fun z => qx fun w => qx fun n => zk ?_
 set_option linter.unusedSimpArgs false in
 simp (config := { maxSteps := 10000000 }) only [BU, e1, e34, p36, e80, p81, VB, e295, ν, κ, ο, γ, ω, ρ, χ, π, δ, ξ, υ, α, μ, β, η, τ, sln, fn1, fn2, z0, Tree.vc, PE.den, E.den, qK, BO.ev, List.getElem?_cons_zero, List.getElem?_cons_succ, List.cons_append, List.nil_append, Option.some.injEq, D.i.injEq, D.t.injEq, exists_eq_left', exists_const, forall_const, forall_eq', qY, qX, qo, zero_eq, min_i64, max_i64, min_u8, max_u8, and_true, true_and, Decidable.not_not, zH, P31, P32, P43, P54]
 intro hk ha hm hx hy hz hw hn e he
 refine ⟨fun h => ⟨by rw [vH]; omega, he, fun h0 => absurd h0 h, fun _ => rfl⟩, fun h => ?_⟩
 subst h
 exact ⟨he.symm, fun s hs hl => ⟨he, fun _ => hs he.symm, fun h0 => absurd rfl h0⟩⟩
theorem qy1 : ∀ ds, Sorts Nv.sorts ds → SE.vc (TI N) ds := by
 refine qx fun s => zk ?_
 set_option linter.unusedSimpArgs false in
 simp (config := { maxSteps := 10000000 }) only [SE, e0, e1, e23, e43, e53, p68, e84, VX, AX, e354, aN, P8, e391, bD, e393, YF, e640, OM, qjv, ν, κ, ο, γ, ω, ρ, χ, π, δ, ξ, υ, α, μ, β, η, τ, sln, fn1, fn2, z0, Tree.vc, PE.den, E.den, qK, BO.ev, List.getElem?_cons_zero, List.getElem?_cons_succ, List.cons_append, List.nil_append, Option.some.injEq, D.i.injEq, D.t.injEq, exists_eq_left', exists_const, forall_const, forall_eq', qY, qX, qo, zero_eq, min_i64, max_i64, min_u8, max_u8, and_true, true_and, Decidable.not_not, zH, P10, P23, P55, P59]
 intro hs f n b n0 hS hW
 refine ⟨fun hb => .inr ⟨rfl, fun L A K hL hA hK e => ?_⟩, fun hb => ?_⟩
 · have := uW hL hA hK
   exact hW.2 hb [mJ, itoa L, itoa A, itoa K] (wL hL hA hK) (by simp) (by unfold qy; rw [e]; omega) e
 · obtain ⟨ws, hB, _, hj, hR⟩ := hW.1 hb
   have uq : ∀ L A K, I64 L → I64 A → I64 K → qj s = headW L A K → ws = [mJ, itoa L, itoa A, itoa K] := fun L A K hL hA hK e => vV hB (wL hL hA hK) (by rw [← hj, e]; rfl)
   refine ⟨fun h4 => .inr ⟨rfl, fun L A K hL hA hK e => ?_⟩, fun h4 => ?_⟩
   · have := uq L A K hL hA hK e
     subst this
     exact h4 hR.1
   · subst h4
     refine ⟨by decide, fun h0 => .inr ⟨rfl, fun L A K hL hA hK e => ?_⟩, fun h0 => ⟨by decide, hS 1 (by decide) (by decide), fun x ex hx hX => ⟨by decide, hS 2 (by decide) (by decide), fun y ey hy hY => ⟨by decide, hS 3 (by decide) (by decide), fun z ez hz hZ => ?_⟩⟩⟩⟩
     · have := uq L A K hL hA hK e
       subst this
       exact h0 ((hR.2 0 _ rfl).trans bM.symm)
     · have no : ¬ (ex = 0 ∧ ey = 0 ∧ ez = 0) → ∀ L A K, I64 L → I64 A → I64 K → qj s ≠ headW L A K := fun hn L A K hL hA hK e => by
         have := uq L A K hL hA hK e
         subst this
         have bd : ∀ {q : Nat} {v ev V : Int}, I64 V → f (q : Int) 0 = qZ (itoa V) → mq (f (q : Int) 0) v ev → ev = 0 := fun hV hq hP => by
           rcases hP with ⟨h, _⟩ | ⟨_, h⟩
           · exact h
           · exact absurd (by rw [hq, qm]) (h _ hV)
         exact hn ⟨bd (q := 1) hL (hR.2 1 _ rfl) hX, bd (q := 2) hA (hR.2 2 _ rfl) hY, bd (q := 3) hK (hR.2 3 _ rfl) hZ⟩
       refine ⟨fun e1 => ⟨fun e2 => ?_, fun e2 => .inr ⟨rfl, no fun h => e2 h.2.1⟩⟩, fun e1 => .inr ⟨rfl, no fun h => e1 h.1⟩⟩
       by_cases e3 : ez = 0
       · rw [if_pos e3]
         obtain ⟨_, g1⟩ := ah hX e1
         obtain ⟨_, g2⟩ := ah hY e2
         obtain ⟨_, g3⟩ := ah hZ e3
         refine .inl ⟨by decide, hx, hy, hz, ?_⟩
         match ws, hR.1 with
         | [w0, w1, w2, w3], _ =>
           have k0 : w0 = mJ := by
             have h := (hR.2 0 _ rfl).symm.trans h0
             rw [bM] at h
             have := congrArg qj h
             rwa [qm, qm] at this
           have k1 : w1 = itoa x := by rw [← g1]; show w1 = qj (f ((1 : Nat) : Int) 0); rw [hR.2 1 w1 rfl, qm]
           have k2 : w2 = itoa y := by rw [← g2]; show w2 = qj (f ((2 : Nat) : Int) 0); rw [hR.2 2 w2 rfl, qm]
           have k3 : w3 = itoa z := by rw [← g3]; show w3 = qj (f ((3 : Nat) : Int) 0); rw [hR.2 3 w3 rfl, qm]
           rw [hj, k0, k1, k2, k3]; rfl
       · rw [if_neg e3]
         exact .inr ⟨rfl, no fun h => e3 h.2.2⟩
theorem Rp : (1205191412043723063 : Int) = qZ (mJ ++ [32]) := by decide
theorem FC : (-17 : Int) = qZ [32] := by decide
theorem IE : ∀ ds, Sorts (pW 16).sorts ds → WK.vc (TI N) ds := by
 refine qx fun L => qx fun A => qx fun K => kU fun T => qx fun n => zk ?_
 set_option linter.unusedSimpArgs false in
 simp (config := { maxSteps := 10000000 }) only [WK, e1, e6, p51, p52, e83, dw, e297, aH, aF, VW, P5, e636, OU, e638, e639, e658, e659, e660, e661, e662, e663, e664, e665, e666, OT, e787, e788, e789, e790, ν, κ, ο, γ, ω, ρ, χ, π, δ, ξ, υ, α, μ, β, η, τ, sln, fn1, fn2, z0, Tree.vc, PE.den, E.den, qK, BO.ev, List.getElem?_cons_zero, List.getElem?_cons_succ, List.cons_append, List.nil_append, Option.some.injEq, D.i.injEq, D.t.injEq, exists_eq_left', exists_const, forall_const, forall_eq', qY, qX, qo, zero_eq, min_i64, max_i64, min_u8, max_u8, and_true, true_and, Decidable.not_not, S3, zH, K7, P32, P43, P44, P45, P63, P65]
 intro n0 _ hT hL hA hK st e _ _ hc
 refine ⟨fun h => ⟨by rw [vH]; omega, ⟨st, hc⟩, fun h0 => absurd h0 h, fun _ => rfl⟩, fun h => ?_⟩
 subst h
 obtain ⟨h5, hr, ho, rfl⟩ := XZ hc
 have lL := jB hL
 have lA := jB hA
 have lK := jB hK
 have l1 : mJ.length = 7 := rfl
 have eh : (mJ ++ [32]) ++ itoa L ++ [32] ++ itoa A ++ [32] ++ itoa K ++ [10] = jm (iM L A K T (0 : Int).toNat) := by
   have : iM L A K T (0 : Int).toNat = [headW L A K] := rfl
   rw [this, kC]
   have e : headW L A K = mJ ++ 32 :: (itoa L ++ 32 :: (itoa A ++ 32 :: itoa K)) := rfl
   rw [e]
   simp [jm]
 rw [Rp, FC, YE]
 simp only [vJ, zP, List.length_append, List.length_singleton]
 refine ⟨by omega, by omega, by omega, by omega, by omega, by omega, by omega, by rw [eh]; rfl, fun i s i0 i1 hs hI => ⟨fun hi => ?_, fun hi => ?_⟩⟩
 · obtain ⟨b0, b3, b4, b5, b6, b7⟩ := hT.1 i i0 hi
   obtain ⟨b1, b2⟩ := hT.2 i i0 hi
   refine ⟨b0, b1, b2, b3, b4, b5, b6, b7, QV ho i0 hi, fun q hq hl => ?_⟩
   have hq := hq (QV ho i0 hi)
   have e1 : (i + 1).toNat = i.toNat + 1 := by omega
   have en : qy (qZ [10]) = 1 := by rw [zP]; rfl
   refine ⟨by omega, by rw [vZ]; omega, by omega, by omega, by omega, by rw [vZ, vZ, en]; omega, ?_, by omega, by omega⟩
   unfold PrJ at hI ⊢
   rw [e1, Km, nH, hI, hq, vJ, vJ, List.append_assoc]
   congr 2
   rw [show ((i.toNat : Nat) : Int) = i by omega]
   simp [jm, spR]
 · have : i = n := by omega
   subst this
   exact ⟨by omega, ⟨0, hc⟩, fun _ => hI, fun h => absurd rfl h⟩
section
variable {s p i n : Int} {T : Tb}
theorem V5 (s : Int) : pE s 0 0 (fun _ _ => 0) 0 := ⟨[], (fun l hl => absurd hl (by simp)), by simp [jm], ⟨rfl, fun r w hr => by simp at hr⟩, fun j _ _ => by omega⟩
theorem XF (h0 : 0 ≤ i) (h1 : i < qy s) : qh s i = 10 ↔ (qj s)[i.toNat]? = some 10 := by
 obtain ⟨c, hc, _, hb⟩ := jW h0 h1
 rw [hb, hc]
 constructor
 · intro h
   have : c = 10 := UInt8.toNat.inj (by rw [show (10 : UInt8).toNat = 10 from rfl]; omega)
   rw [this]
 · intro h
   rw [Option.some.inj h]; rfl
theorem qvj (h : pE s p i T n) (hb : ¬ qh s i = 10) : pE s p (i + 1) T n := by
 obtain ⟨ls, h1, h2, h3, h4⟩ := h
 refine ⟨ls, h1, h2, h3, fun j j0 j1 => ?_⟩
 by_cases e : j = i
 · rw [e]; exact hb
 · exact h4 j j0 (by omega)
theorem qwi (h : pE s p i T n) (p0 : 0 ≤ p) (pi : p ≤ i) (hi : i < qy s) (hb : qh s i = 10) : pE s (i + 1) (i + 1) (qg T n 0 (jZ s p i)) (n + 1) := by
 obtain ⟨ls, h1, h2, h3, h4⟩ := h
 have hl : i.toNat < (qj s).length := by unfold qy at hi; omega
 have hb' := (XF (by omega) hi).1 hb
 have hw : jZ s p i = qZ (((qj s).drop p.toNat).take (i.toNat - p.toNat)) := by rw [← kP, zf]
 refine ⟨ls ++ [((qj s).drop p.toNat).take (i.toNat - p.toNat)], fun l hl => ?_, ?_, qq2 h3 hw _ rfl, fun j _ _ => by omega⟩
 · rcases List.mem_append.1 hl with hl | hl
   · exact h1 l hl
   · rw [List.mem_singleton.1 hl]
     intro hm
     obtain ⟨k, hk⟩ := List.getElem?_of_mem hm
     rw [List.getElem?_take] at hk
     split at hk
     · rename_i hk2
       rw [List.getElem?_drop] at hk
       refine h4 (p + (k : Nat)) (by omega) (by omega) ((XF (by omega) (by omega)).2 ?_)
       rw [show (p + ((k : Nat) : Int)).toNat = p.toNat + k by omega]
       exact hk
     · cases hk
 · rw [nH, ← h2, show (i + 1).toNat = i.toNat + 1 by omega, List.take_add_one, hb']
   have e : (qj s).take i.toNat = (qj s).take p.toNat ++ ((qj s).drop p.toNat).take (i.toNat - p.toNat) := by
     rw [← List.take_add, show p.toNat + (i.toNat - p.toNat) = i.toNat by omega]
   rw [e]
   simp [jm]
theorem qwu (hT : ∀ r : Int, 0 ≤ r → r < n → qy (T r 0) ≤ 100000) (hs : qy s ≤ 100000) : ∀ r : Int, 0 ≤ r → r < n + 1 → qy (qg T n 0 (jZ s p i) r 0) ≤ 100000 := fun r r0 r1 => by
 unfold qg
 split
 · have := (yB s p i).2
   omega
 · rename_i h
   exact hT r r0 (by
     have : r ≠ n := fun e => h ⟨e, rfl⟩
     omega)
theorem LX (h : pE s p i T n) (p0 : 0 ≤ p) (pi : p ≤ i) (hi : i ≤ qy s) (he : ¬ i < qy s) (hb : qy s = 0 ∨ qh s (qy s - 1) = 10) : ∃ ls, pO ls ∧ qj s = jm ls ∧ jh T ls n := by
 obtain ⟨ls, h1, h2, h3, h4⟩ := h
 have hp : p = qy s := by
   rcases hb with hb | hb
   · omega
   · refine Classical.byContradiction fun hn => h4 (qy s - 1) (by omega) (by omega) hb
 refine ⟨ls, h1, ?_, h3⟩
 rw [← h2, hp]
 unfold qy
 rw [Int.toNat_natCast, List.take_length]
end
theorem I5 : ∀ ds, Sorts (pX 41).sorts ds → WY.vc (TI N) ds := by
 refine qx fun s => zk ?_
 set_option linter.unusedSimpArgs false in
 simp (config := { maxSteps := 10000000 }) only [WY, e0, e1, e6, e10, p11, e12, e13, e18, p19, q20, e23, e32, p51, e58, JN, PK, OL, VK, e791, qjx, ν, κ, ο, γ, ω, ρ, χ, π, δ, ξ, υ, α, μ, β, η, τ, sln, fn1, fn2, z0, Tree.vc, PE.den, E.den, qK, BO.ev, List.getElem?_cons_zero, List.getElem?_cons_succ, List.cons_append, List.nil_append, Option.some.injEq, D.i.injEq, D.t.injEq, exists_eq_left', exists_const, forall_const, forall_eq', qY, qX, qo, zero_eq, min_i64, max_i64, min_u8, max_u8, and_true, true_and, Decidable.not_not, zH, K6, dB, P23, P61, P62]
 intro hs
 have sn := qN s
 have z : ∀ r : Int, 0 ≤ r → r < 0 → qy 0 ≤ 100000 := fun r h0 h1 => by omega
 have fin : ∀ {T : Tb} {n : Int}, (∃ ls, pO ls ∧ qj s = jm ls ∧ jh T ls n) → (5000 < n → XC s (fun _ _ => 0) 0 3) ∧ (¬5000 < n → XC s T n 0) := fun ⟨ls, h1, h2, h3⟩ => by
   have := h3.1
   exact ⟨fun h => .inl ⟨ls, h1, h2, .inr ⟨by omega, rfl, rfl⟩⟩, fun h => .inl ⟨ls, h1, h2, .inl ⟨by omega, rfl, h3⟩⟩⟩
 refine ⟨fun h => by omega, fun _ => ⟨fun h0 => ⟨by omega, by omega, by omega, fun hb => ⟨z, ?_⟩, fun hb => ⟨by omega, z, V5 s, fun i p T n i0 i1 p0 p1 n0 n1 hT hI => ⟨fun hi => ⟨fun h => ⟨by omega, by omega, by omega, by omega, by omega, by omega, by omega, qwu hT hs, qwi hI p0 p1 hi h, by omega, by omega⟩, fun h => ⟨by omega, by omega, by omega, by omega, qvj hI h, by omega, by omega⟩⟩, fun hi => ?_⟩⟩⟩, fun h0 => ⟨by omega, z, V5 s, fun i p T n i0 i1 p0 p1 n0 n1 hT hI => ?_⟩⟩⟩
 · refine .inr ⟨fun ls hls e => ?_, rfl, rfl⟩
   by_cases hne : ls = []
   · subst hne
     unfold qy at h0
     rw [e] at h0
     simp [jm] at h0
   · obtain ⟨u, hu⟩ := Zu hne
     refine hb ((XF (by omega) (by omega)).2 ?_)
     unfold qy
     rw [e, hu]
     simp
 · exact fin (LX hI p0 p1 i1 hi (.inr hb))
 · exact ⟨fun h => absurd h (by omega), fun hi => fin (LX hI p0 p1 i1 hi (.inl (by omega)))⟩
end Go.Tt
namespace Go.Tt
open Go Go.Sx Go.Lib Go.Sf
variable {N : Nat}
theorem Jq {L A K : Int} {T : Tb} {n st e st' e' : Int} (h : J6 L A K T n st e) (h' : J6 L A K T n st' e') : st = st' ∧ e = e' := by
 rcases h with ⟨h1, h2, h3⟩ | ⟨h1, h2, h3, h4⟩ | ⟨h1, h2, h3⟩ <;> rcases h' with ⟨g1, g2, g3⟩ | ⟨g1, g2, g3, g4⟩ | ⟨g1, g2, g3⟩
 · omega
 · omega
 · omega
 · omega
 · omega
 · exact absurd g2 h2
 · omega
 · exact absurd h2 g2
 · rcases h3 with ⟨a1, a2, a3⟩ | ⟨a1, a2, a3, a4, a5⟩ <;> rcases g3 with ⟨b1, b2, b3⟩ | ⟨b1, b2, b3, b4, b5⟩
   · omega
   · exact absurd (b4.trans (a3 st' b1 b2)) b3
   · exact absurd (a4.trans (b3 st a1 a2)) a3
   · have : st = st' := by
       rcases Int.lt_trichotomy st st' with h | h | h
       · exact absurd (a4.trans (b5 st a1 h)) a3
       · exact h
       · exact absurd (b4.trans (a5 st' b1 h)) b3
     subst this
     exact ⟨rfl, a4.trans b4.symm⟩
theorem qyd {L A K : Int} {T T' : Tb} {n st e : Int} (hs : ∀ r : Int, 0 ≤ r → r < n → ∀ c < 8, T r c = T' r c) (h : J6 L A K T n st e) : J6 L A K T' n st e := by
 rcases h with h | h | ⟨h1, h2, h3⟩
 · exact .inl h
 · exact .inr (.inl h)
 · refine .inr (.inr ⟨h1, h2, ?_⟩)
   rcases h3 with ⟨a1, a2, a3⟩ | ⟨a1, a2, a3, a4, a5⟩
   · exact .inl ⟨a1, a2, ok_eq hs a3⟩
   · exact .inr ⟨a1, a2, a3, a4.trans (Il (fun r r0 r1 => hs r r0 (by omega)) a1), ok_eq (fun r r0 r1 => hs r r0 (by omega)) a5⟩
theorem Du {L A K : Int} {T : Tb} {n s e s' e' : Int} (h : XT L A K T n s e) (h' : XT L A K T n s' e') : s = s' ∧ e = e' := by
 obtain ⟨⟨st, h1⟩, h2, h3⟩ := h
 obtain ⟨⟨st', g1⟩, g2, g3⟩ := h'
 obtain ⟨_, rfl⟩ := Jq h1 g1
 by_cases he : e = 0
 · exact ⟨by rw [h2 he, g2 he], rfl⟩
 · exact ⟨by rw [h3 he, g3 he], rfl⟩
theorem Et {k a m x y z w n s e s' e' : Int} (h : LnP k a m x y z w n s e) (h' : LnP k a m x y z w n s' e') : s = s' ∧ e = e' := by
 obtain ⟨h1, h2, h3⟩ := h
 obtain ⟨g1, g2, g3⟩ := h'
 obtain rfl : e = e' := h1.trans g1.symm
 by_cases he : e = 0
 · exact ⟨by rw [h2 he, g2 he], rfl⟩
 · exact ⟨by rw [h3 he, g3 he], rfl⟩
theorem Ti {T T' : Tb} {ls : List (List UInt8)} (h : Bl T ls) (h' : Bl T' ls) : ∀ r : Int, 0 ≤ r → r < (ls.length : Nat) → ∀ c < 8, T r c = T' r c := fun r r0 r1 => by
 have hr : r.toNat < ls.length := by omega
 obtain ⟨a1, a2⟩ := h r.toNat _ (List.getElem?_eq_getElem hr)
 obtain ⟨b1, b2⟩ := h' r.toNat _ (List.getElem?_eq_getElem hr)
 rw [show ((r.toNat : Nat) : Int) = r by omega] at a1 a2 b1 b2
 exact Pm a1 b1 (Fy a2 b2)
def Pq (L A K : Int) (T : Tb) (n line e L' A' K' : Int) (T' : Tb) (n' line' e' : Int) : Prop := line = line' ∧ e = e' ∧ L = L' ∧ A = A' ∧ K = K' ∧ n = n' ∧ ∀ r : Nat, (r : Int) < n → ∀ c < 8, T r c = T' r c
theorem TL {L A K L' A' K' n n' line e : Int} {T T' : Tb} (h : aV L A K n) (h' : aV L' A' K' n') : Pq L A K T n line e L' A' K' T' n' line e := by
 obtain ⟨rfl, rfl, rfl, rfl⟩ := h
 obtain ⟨rfl, rfl, rfl, rfl⟩ := h'
 exact ⟨rfl, rfl, rfl, rfl, rfl, rfl, fun r hr => by omega⟩
theorem DZ {s L A K n line e L' A' K' n' line' e' : Int} {T T' : Tb} (h : oG s L A K T n line e) (h' : oG s L' A' K' T' n' line' e') : Pq L A K T n line e L' A' K' T' n' line' e' := by
 have uq : ∀ {l m : List (List UInt8)}, pO l → qj s = jm l → pO m → qj s = jm m → l = m := fun h1 h2 h3 h4 => VE h1 h3 (by rw [← h2, h4])
 rcases h with ⟨h, ls, st, h1, h2, h3, L2, A2, K2, T2, g1, g2, g3, g4, g5, g6, g7⟩ | ⟨h, ls, i, h1, h2, h3, ⟨L2, A2, K2, g1, g2, g3, g4⟩, ⟨T2, g5⟩, ⟨l, hl, hl2⟩, rfl, hz, rfl⟩ | ⟨ls, h1, h2, h3, h4, rfl, hz, rfl⟩ | ⟨ls, h1, h2, h3, rfl, hz, rfl⟩ | ⟨h1, rfl, hz, rfl⟩ <;>
   rcases h' with ⟨h', ls', st', h1', h2', h3', L3, A3, K3, T3, g1', g2', g3', g4', g5', g6', g7'⟩ | ⟨h', ls', i', h1', h2', h3', ⟨L3, A3, K3, g1', g2', g3', g4'⟩, ⟨T3, g5'⟩, ⟨l', hl', qvT⟩, rfl, hz', rfl⟩ | ⟨ls', h1', h2', h3', h4', rfl, hz', rfl⟩ | ⟨ls', h1', h2', h3', rfl, hz', rfl⟩ | ⟨h1', rfl, hz', rfl⟩
 · obtain ⟨rfl, rfl⟩ := List.cons.inj (uq h1 h2 h1' h2')
   obtain ⟨rfl, rfl, rfl⟩ := UK g1 g2 g3 g1' g2' g3' (g4.symm.trans g4')
   have hs := Ti g5 g5'
   obtain ⟨rfl, rfl⟩ := Jq (qyd hs g6) g6'
   rcases g7 with ⟨a0, rfl, rfl, rfl, rfl, a5, rfl⟩ | ⟨a0, hz, rfl⟩ <;> rcases g7' with ⟨b0, rfl, rfl, rfl, rfl, b5, rfl⟩ | ⟨b0, hz', rfl⟩
   · refine ⟨rfl, rfl, rfl, rfl, rfl, rfl, fun r hr c hc => ?_⟩
     rw [a5 r (by omega) c hc, b5 r (by omega) c hc]
     exact hs r (by omega) (by omega) c hc
   · exact absurd a0 b0
   · exact absurd b0 a0
   · exact TL hz hz'
 · obtain ⟨rfl, rfl⟩ := List.cons.inj (uq h1 h2 h1' h2')
   exact absurd (g5 i' l' hl').2 (qvT _)
 · obtain rfl := uq h1' h2' h1 h2
   exact absurd g4 (h4' _ rfl L2 A2 K2 g1 g2 g3)
 · obtain rfl := uq h1' h2' h1 h2
   rw [List.length_cons] at h3'; omega
 · exact absurd h2 (h1' _ h1)
 · obtain ⟨rfl, rfl⟩ := List.cons.inj (uq h1 h2 h1' h2')
   exact absurd (g5' i l hl).2 (hl2 _)
 · obtain ⟨rfl, rfl⟩ := List.cons.inj (uq h1 h2 h1' h2')
   have hi : i = i' := by
     rcases Nat.lt_trichotomy i i' with h | h | h
     · exact absurd (g5' i l (by rw [List.getElem?_take, if_pos h]; exact hl)).2 (hl2 _)
     · exact h
     · exact absurd (g5 i' l' (by rw [List.getElem?_take, if_pos h]; exact hl')).2 (qvT _)
   subst hi
   exact TL hz hz'
 · obtain rfl := uq h1' h2' h1 h2
   exact absurd g4 (h4' _ rfl L2 A2 K2 g1 g2 g3)
 · obtain rfl := uq h1' h2' h1 h2
   rw [List.length_cons] at h3'; omega
 · exact absurd h2 (h1' _ h1)
 · obtain rfl := uq h1 h2 h1' h2'
   exact absurd g4' (h4 _ rfl L3 A3 K3 g1' g2' g3')
 · obtain rfl := uq h1 h2 h1' h2'
   exact absurd g4' (h4 _ rfl L3 A3 K3 g1' g2' g3')
 · exact TL hz hz'
 · obtain rfl := uq h1 h2 h1' h2'
   omega
 · exact absurd h2 (h1' _ h1)
 · obtain rfl := uq h1 h2 h1' h2'
   rw [List.length_cons] at h3; omega
 · obtain rfl := uq h1 h2 h1' h2'
   rw [List.length_cons] at h3; omega
 · obtain rfl := uq h1 h2 h1' h2'
   omega
 · exact TL hz hz'
 · exact absurd h2 (h1' _ h1)
 · exact absurd h2' (h1 _ h1')
 · exact absurd h2' (h1 _ h1')
 · exact absurd h2' (h1 _ h1')
 · exact absurd h2' (h1 _ h1')
 · exact TL hz hz'
set_option maxHeartbeats 4000000 in
theorem qgo : ∀ ds, Sorts Ib.sorts ds → qz6.vc (TI N) ds := by
 refine qx fun L => qx fun A => qx fun K => kU fun T => qx fun n => qx fun k => qx fun a => qx fun m => qx fun x => qx fun y => qx fun z => qx fun w => qx fun q => qx fun s => zk ?_
 set_option linter.unusedSimpArgs false in
 simp (config := { maxSteps := 10000000 }) only [qz6, e1, e6, p51, bF, aP, nV, tV, JX, aH, aF, e636, PU, Ch, ν, κ, ο, γ, ω, ρ, χ, π, δ, ξ, υ, α, μ, β, η, τ, sln, fn1, fn2, z0, Tree.vc, PE.den, E.den, qK, BO.ev, List.getElem?_cons_zero, List.getElem?_cons_succ, List.cons_append, List.nil_append, Option.some.injEq, D.i.injEq, D.t.injEq, exists_eq_left', exists_const, forall_const, forall_eq', qY, qX, qo, zero_eq, min_i64, max_i64, min_u8, max_u8, and_true, true_and, Decidable.not_not, zH, P44, P45, P54, P63, P66, P67, P69, P71]
 intro n0 _ hT hL hA hK hk hx hy hz hw hq b hF
 refine ⟨fun _ => trivial, fun hb => ⟨fun _ => trivial, fun h6 => ⟨fun _ => trivial, fun ha => ⟨fun _ => trivial, fun hm => ?_⟩⟩⟩⟩
 obtain ⟨hn1, hn2, hF⟩ := hF hb
 refine ⟨by omega, ⟨hT, fun r r0 r1 => by have := hF r r0 r1; omega⟩, fun st e _ _ hc st' e' _ _ hc' p pe _ hp p' pe' _ hp' => ?_⟩
 obtain ⟨c1, c2⟩ := Jq hc hc'
 obtain ⟨c3, c4⟩ := Du hp hp'
 refine ⟨fun h => h c1, fun _ => ⟨fun h => h c2, fun _ => ⟨fun h => h c3, fun _ => ⟨fun h => h c4, fun _ => ⟨by omega, by omega, fun l le _ hl l' le' _ hl' => ?_⟩⟩⟩⟩⟩
 obtain ⟨c5, c6⟩ := Et hl hl'
 refine ⟨by omega, fun L1 A1 K1 T1 n1 ln1 e1 _ _ _ _ _ _ hP1 L2 A2 K2 T2 n2 ln2 e2 _ _ _ _ _ _ hP2 => ?_⟩
 obtain ⟨d1, d2, d3, d4, d5, d6, d7⟩ := DZ hP1 hP2
 exact ⟨fun _ => ⟨fun _ => ⟨by omega, by omega, fun u hu => ⟨fun _ => ⟨fun _ => ⟨fun _ => trivial, fun h => h d2⟩, fun h => h d1⟩, fun h => hu.2 ⟨d3, d4, d5, d6, d7⟩ h⟩⟩, fun h => h c6⟩, fun h => h c5⟩
theorem I4 : ∀ ds, Sorts (pY 18).sorts ds → WW.vc (TI N) ds := by
 refine qx fun s => zk ?_
 set_option linter.unusedSimpArgs false in
 simp (config := { maxSteps := 10000000 }) only [WW, e0, e1, e6, e23, e38, e43, p68, p69, e84, dw, vC, iR, e278, VX, e354, tV, Q9, AZ, PO, OC, Vl, e666, e793, e794, ν, κ, ο, γ, ω, ρ, χ, π, δ, ξ, υ, α, μ, β, η, τ, sln, fn1, fn2, z0, Tree.vc, PE.den, E.den, qK, BO.ev, List.getElem?_cons_zero, List.getElem?_cons_succ, List.cons_append, List.nil_append, Option.some.injEq, D.i.injEq, D.t.injEq, exists_eq_left', exists_const, forall_const, forall_eq', qY, qX, qo, zero_eq, min_i64, max_i64, min_u8, max_u8, and_true, true_and, Decidable.not_not, zH, P34, P23, P44, P45, P59, P61, P66, P72]
 intro hs U n e n0 hU hL
 refine ⟨fun he => ⟨tb0, ?_⟩, fun he => ?_⟩
 · rcases hL with ⟨ls, h1, h2, ⟨h3, h4, h5⟩ | ⟨h3, h4, h5⟩⟩ | ⟨h1, h2, h3⟩
   · exact absurd h4 he
   · exact .inr (.inr (.inr (.inl ⟨ls, h1, h2, h3, h4, z3, rfl⟩)))
   · exact .inr (.inr (.inr (.inr ⟨h1, h2, z3, rfl⟩)))
 subst he
 obtain ⟨ls, h1, h2, h3, hR⟩ : ∃ ls, pO ls ∧ qj s = jm ls ∧ ls.length ≤ 5000 ∧ jh U ls n := by
   rcases hL with ⟨ls, h1, h2, ⟨h3, h4, h5⟩ | ⟨h3, h4, h5⟩⟩ | ⟨h1, h2, h3⟩
   · exact ⟨ls, h1, h2, h3, h5⟩
   · cases h4
   · cases h2
 cases ls with
 | nil =>
   have : n = 0 := hR.1
   subst this
   exact ⟨fun _ => ⟨tb0, .inr (.inr (.inl ⟨[], h1, h2, h3, fun h hh => by simp at hh, rfl, z3, rfl⟩))⟩, fun h => absurd rfl h⟩
 | cons h0 tl =>
   have hn : n = (tl.length : Nat) + 1 := by have := hR.1; simpa using this
   have hU0 : U 0 0 = qZ h0 := hR.2 0 h0 rfl
   have hd : qj (U 0 0) = h0 := by rw [hU0, qm]
   have htl : tl.length < 5000 := by rw [List.length_cons] at h3; omega
   have bad : (∀ L A K, I64 L → I64 A → I64 K → qj (U 0 0) ≠ headW L A K) → oG s 0 0 0 (fun _ _ => 0) 0 1 6 := fun hb => by
     refine .inr (.inr (.inl ⟨h0 :: tl, h1, h2, h3, fun h hh L A K hL hA hK e => hb L A K hL hA hK ?_, rfl, z3, rfl⟩))
     simp at hh
     rw [hd, hh, e]
   refine ⟨fun h => by omega, fun _ => ⟨by omega, hU 0 (by omega) (by omega), fun x y z b hx hy hz hH => ⟨fun hb => ⟨tb0, ?_⟩, fun hb => ?_⟩⟩⟩
   · rcases hH with ⟨h, _⟩ | ⟨_, h⟩
     · exact absurd hb h
     · exact bad h
   obtain ⟨ix, iy, iz, hh⟩ : I64 x ∧ I64 y ∧ I64 z ∧ h0 = headW x y z := by
     rcases hH with ⟨_, h1, h2, h3, h4⟩ | ⟨h, _⟩
     · exact ⟨h1, h2, h3, by rw [← hd, h4]⟩
     · exact absurd h hb
   refine ⟨by omega, tb0, fun r hr => by omega, fun i T m i0 i1 m1 m2 hT hP => ⟨fun hi => ⟨by omega, hU _ (by omega) (by omega), fun k a m' x' y' z' w' n' b hk ha hm hx' hy' hz' hw' hn' hW => ⟨fun hb => ⟨by omega, ?_⟩, fun hb => ?_⟩⟩, fun hi => ⟨by omega, by omega, fun st e st0 st1 hC => ⟨fun he => ⟨by omega, ?_⟩, fun he => ?_⟩⟩⟩⟩
   · have hil : m.toNat < tl.length := by omega
     have hl : tl[m.toNat]? = some tl[m.toNat] := List.getElem?_eq_getElem hil
     have hUl := iY hR hl
     rw [show ((m.toNat : Nat) : Int) + 1 = i by omega] at hUl
     refine .inr (.inl ⟨h0, tl, m.toNat, h1, h2, htl, ⟨x, y, z, ix, iy, iz, hh⟩, ⟨T, bU hR hP (by omega)⟩, ⟨_, hl, fun t => ?_⟩, rfl, z3, by omega⟩)
     rw [← hUl]
     exact V3 hW hb t
   · obtain ⟨k0, hl⟩ := Ke hW hb
     have hmi : i = m + 1 := by omega
     subst hmi
     exact ⟨by omega, by omega, by omega, by omega, by omega, by omega, Ht hT hk ha hm hx' hy' hz' hw' hn', VJ hP k0 hl, by omega, by omega⟩
   · have hm : m = (tl.length : Nat) := by omega
     have hRL := bU hR hP (k := tl.length) (by omega)
     rw [List.take_length] at hRL
     rw [hm] at hC
     exact .inl ⟨h0, tl, st, h1, h2, htl, x, y, z, T, ix, iy, iz, hh, hRL, hC, .inr ⟨he, z3, rfl⟩⟩
   · subst he
     have hm : m = (tl.length : Nat) := by omega
     have hRL := bU hR hP (k := tl.length) (by omega)
     rw [List.take_length] at hRL
     rw [hm] at hC
     have h5 := (XZ hC).1
     exact ⟨by omega, .inl ⟨h0, tl, st, h1, h2, htl, x, y, z, T, ix, iy, iz, hh, hRL, hC, .inl ⟨rfl, rfl, rfl, rfl, hm, fun r _ c _ => rfl, rfl⟩⟩⟩
end Go.Tt
namespace Go.Tt
open Go Go.Sx Go.Lib Go.Sf
variable {N : Nat}
theorem qwl {T : Tb} {i a b : Int} : IK T i a b ↔ (b ≠ 0 ↔ Made T i a) := Iff.rfl
theorem qyy {T : Tb} {i k a m r : Int} : IY T i k a m r ↔ (0 ≤ r ↔ Has T i k a m) := Iff.rfl
set_option maxHeartbeats 8000000 in
theorem qgZ : ∀ ds, Sorts qqY.sorts ds → qjq.vc (TI N) ds := by
 refine kU fun T => qx fun mm => qx fun i => qx fun k => qx fun a => qx fun m => qx fun x => qx fun y => qx fun z => qx fun w => qx fun n => zk ?_
 set_option linter.unusedSimpArgs false in
 simp (config := { maxSteps := 10000000 }) only [qjq, e1, p3, e23, e28, p74, e242, e244, e274, e282, e283, nV, aM, VK, PI, qka, Dt, e676, Cn, Cm, qko, e680, PU, qki, e683, r9, e685, Ch, e687, iD, qjs, qjr, qjp, qjn, qjm, qjh, qku, qjf, qjd, qjb, qjg, Cb, Cg, qkl, qkc, ν, κ, ο, γ, ω, ρ, χ, π, δ, ξ, υ, α, μ, β, η, τ, sln, fn1, fn2, z0, Tree.vc, PE.den, E.den, qK, BO.ev, List.getElem?_cons_zero, List.getElem?_cons_succ, List.cons_append, List.nil_append, Option.some.injEq, D.i.injEq, D.t.injEq, exists_eq_left', exists_const, forall_const, forall_eq', qY, qX, qo, zero_eq, min_i64, max_i64, min_u8, max_u8, and_true, true_and, Decidable.not_not, zH, P31, P45, P49, P50, P52, P80]
 intro i0 i1 i2 hT hk ha hm hx hy hz hw hn e he
 refine ⟨fun h => ?_, fun h f hf => ?_⟩
 · have he : e = wM k (qj a) (qj m) x y z w n := he
   show e = FE T i k a m x y z w n
   unfold FE
   rw [← he, tF h]
 · subst h
   have ho : OkP k a m x y z w n := he.symm
   have hF := okF ho
   have k1 := hF.k1
   have k13 := hF.k13
   have hc : ∀ q, qqN T i k a m x y z w n q ↔ q = wS (Made T i a) (Has T i (kof k.toNat) a m) k 0 := fun q => by
     unfold qqN FE
     have ho : wM k (qj a) (qj m) x y z w n = 0 := ho
     rw [ho]
   obtain ⟨_, t1, t2, _⟩ := hf k.toNat (by omega) (by omega)
   rw [show ((k.toNat : Nat) : Int) = k by omega] at t1 t2
   simp only [hc, qwl, qyy, t1, t2]
   clear he ho hF hT hc t1 t2 hf ha hm hx hy hz hw hn hk
   have : k = 1 ∨ k = 2 ∨ k = 3 ∨ k = 4 ∨ k = 5 ∨ k = 6 ∨ k = 7 ∨ k = 8 ∨ k = 9 ∨ k = 10 ∨ k = 11 ∨ k = 12 ∨ k = 13 := by omega
   clear k1 k13
   by_cases hA : Made T i a <;> by_cases h3 : Has T i 3 a m <;> by_cases h4 : Has T i 4 a m
   all_goals
     rcases this with rfl | rfl | rfl | rfl | rfl | rfl | rfl | rfl | rfl | rfl | rfl | rfl | rfl
   all_goals
     simp [wS, u1, u2, kar, knm, kof, hA, h3, h4]
   all_goals
     repeat' with_reducible first | apply And.intro | intro _
   all_goals omega
end Go.Tt
