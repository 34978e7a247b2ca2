/-
  The formulas of the contracts hold: bytes, names, numerals. Conditions: none; nothing here speaks of a program.
-/
import Derived.Test.YtiehemggplndcaaGreatDoorC1
import Derived.KernelRfl
namespace Go.Tt
open Go Go.Sx Go.Lib Go.Sf
variable {N : Nat}
theorem Mc {s l n : Int} (h0 : 0 ≤ n) (h1 : n < qy s) (h : qh s n < l ∨ 126 < qh s n) : IZ s l 0 := by
 refine ⟨fun h => absurd rfl h, fun hc => ?_⟩
 obtain ⟨c, _, h2, h3⟩ := jW h0 h1
 have := hc c h2
 omega
theorem Ab {s l n : Int} (h : F6 s l n) (hn : ¬ n < qy s) : IZ s l 1 := by
 refine ⟨fun _ c hc => ?_, fun _ => by decide⟩
 obtain ⟨m, h0, h1, h2⟩ := dh hc
 have := h m h0 (by omega)
 omega
theorem Ve {s l n : Int} (h : F6 s l n) (h1 : ¬ qh s n < l) (h2 : ¬ 126 < qh s n) : F6 s l (n + 1) := by
 intro j h3 h4
 by_cases hj : j < n
 · exact h j h3 hj
 · obtain rfl : j = n := by omega
   omega
theorem qgr : ∀ ds, Sorts Ij.sorts ds → qzE.vc (TI N) ds := by
 refine qx fun s => qx fun l => zk ?_
 set_option linter.unusedSimpArgs false in
 simp (config := { maxSteps := 10000000 }) only [qzE, e0, e1, e23, p24, e25, e26, q27, e28, q29, ν, κ, ο, γ, ω, ρ, χ, π, δ, ξ, υ, α, μ, β, η, τ, sln, fn1, fn2, z0, Tree.vc, PE.den, E.den, qK, BO.ev, List.getElem?_cons_zero, List.getElem?_cons_succ, List.cons_append, List.nil_append, Option.some.injEq, D.i.injEq, D.t.injEq, exists_eq_left', exists_const, forall_const, forall_eq', qY, qX, qo, zero_eq, min_i64, max_i64, min_u8, max_u8, and_true, true_and, Decidable.not_not, zH, dB, P41, P42]
 intro hs
 refine ⟨qN s, fun j h0 h1 => by omega, fun n h0 h1 h2 => ⟨fun h3 => ⟨fun h4 => Mc h0 h3 (.inl h4), fun h4 => ⟨fun h5 => Mc h0 h3 (.inr h5), fun h5 => ?_⟩⟩, fun h3 => Ab h2 h3⟩⟩
 exact ⟨by omega, by omega, by omega, Ve h2 h4 h5, by omega, by omega⟩
theorem nN {b : UInt8} : rG b = true ↔ lJ ((b.toNat : Nat) : Int) := by
 unfold rG lJ
 simp only [Bool.or_eq_true, decide_eq_true_eq]
 omega
theorem Ku {b : UInt8} : VH b = true ↔ F7 ((b.toNat : Nat) : Int) := by
 unfold VH F7
 simp only [Bool.or_eq_true, decide_eq_true_eq, nN]
 unfold lJ
 omega
theorem YA {s : Int} : xM (qj s) ↔ 1 ≤ qy s ∧ qy s ≤ 16 ∧ NmI s (qy s) := by
 unfold xM NmI
 constructor
 · rintro ⟨h1, h2, h3, h4⟩
   refine ⟨by unfold qy; omega, by unfold qy; omega, fun j h0 hj => ?_⟩
   obtain ⟨c, hc, hm, he⟩ := jW h0 hj
   rw [he]
   refine ⟨Ku.1 (h4 c hm), fun hj0 => ?_⟩
   subst hj0
   exact nN.1 (h3 c (by rw [List.head?_eq_getElem?]; exact hc))
 · rintro ⟨h1, h2, h3⟩
   refine ⟨by unfold qy at h1; omega, by unfold qy at h2; omega, fun b hb => ?_, fun b hb => ?_⟩
   · rw [List.head?_eq_getElem?] at hb
     have h4 := (h3 0 (by omega) (by omega)).2 rfl
     have : qh s 0 = (b.toNat : Nat) := by unfold qh; rw [show ((0 : Int).toNat) = 0 from rfl, hb]; rfl
     rw [this] at h4
     exact nN.2 h4
   · obtain ⟨m, h0, h5, h6⟩ := dh hb
     have h4 := (h3 m h0 h5).1
     rw [h6] at h4
     exact Ku.2 h4
theorem VF {s n : Int} (h0 : 0 ≤ n) (h1 : n < qy s) (h : ¬ (F7 (qh s n) ∧ (n = 0 → lJ (qh s n)))) : jN s = 0 := by
 unfold jN
 rw [if_neg]
 intro hn
 exact h ((YA.1 hn).2.2 n h0 h1)
theorem Zv {s : Int} (h : ¬ (1 ≤ qy s ∧ qy s ≤ 16)) : jN s = 0 := by
 unfold jN
 rw [if_neg]
 intro hn
 exact h ⟨(YA.1 hn).1, (YA.1 hn).2.1⟩
theorem VD {s n : Int} (h : NmI s n) (hn : ¬ n < qy s) (h1 : 1 ≤ qy s) : jN s = (if qy s ≤ 16 then (1 : Int) else 0) := by
 by_cases h2 : qy s ≤ 16
 · rw [if_pos h2]
   unfold jN
   rw [if_pos (YA.2 ⟨h1, h2, fun j h3 h4 => h j h3 (by omega)⟩)]
 · rw [if_neg h2]
   exact Zv fun h => h2 h.2
theorem eU {s n : Int} (h : NmI s n) (h1 : F7 (qh s n)) (h2 : n = 0 → lJ (qh s n)) : NmI s (n + 1) := by
 intro j h3 h4
 by_cases hj : j < n
 · exact h j h3 hj
 · obtain rfl : j = n := by omega
   exact ⟨h1, h2⟩
theorem qgW (s n : Int) : (97 ≤ jH 1 IntKind.u8 (qh s n) 32 ∧ jH 1 IntKind.u8 (qh s n) 32 ≤ 122) ↔ lJ (qh s n) := by
 unfold qh
 generalize ((qj s)[n.toNat]?).getD 0 = b
 have h : ∀ b : Fin 256, (97 ≤ jH 1 IntKind.u8 ((b.val : Nat) : Int) 32 ∧ jH 1 IntKind.u8 ((b.val : Nat) : Int) 32 ≤ 122) ↔ lJ ((b.val : Nat) : Int) := by unfold lJ; decide +kernel
 exact h ⟨b.toNat, UInt8.toNat_lt b⟩
theorem qyA : ∀ ds, Sorts (cName 76).sorts ds → SL.vc (TI N) ds := by
 refine qx fun s => zk ?_
 set_option linter.unusedSimpArgs false in
 simp (config := { maxSteps := 10000000 }) only [SL, e0, e1, e10, p11, e12, e13, e14, q15, e16, e17, e18, p19, q20, q21, q22, ν, κ, ο, γ, ω, ρ, χ, π, δ, ξ, υ, α, μ, β, η, τ, sln, fn1, fn2, z0, Tree.vc, PE.den, E.den, qK, BO.ev, List.getElem?_cons_zero, List.getElem?_cons_succ, List.cons_append, List.nil_append, Option.some.injEq, D.i.injEq, D.t.injEq, exists_eq_left', exists_const, forall_const, forall_eq', qY, qX, qo, zero_eq, min_i64, max_i64, min_u8, max_u8, and_true, true_and, Decidable.not_not, S20, zH, dB, P40]
 intro hs
 refine ⟨qN s, fun j h0 h1 => by omega, fun n h0 h1 h2 => ⟨fun h3 => ?_, fun h3 => ⟨fun h4 => VD h2 h3 h4, fun h4 => Zv fun h => h4 h.1⟩⟩⟩
 have ho := qgW s n
 by_cases hL : lJ (qh s n)
 · have hn := eU h2 (.inl hL) (fun _ => hL)
   have ho := ho.2 hL
   repeat' with_reducible first | apply And.intro | intro _
   all_goals first | omega | exact hn
 · have ho : ¬ (97 ≤ jH 1 IntKind.u8 (qh s n) 32 ∧ jH 1 IntKind.u8 (qh s n) 32 ≤ 122) := fun h => hL (ho.1 h)
   have hb : (n = 0 ∨ ¬ ((48 ≤ qh s n ∧ qh s n ≤ 57) ∨ qh s n = 95)) → jN s = 0 := fun h => VF h0 h3 fun hh => by
     rcases h with h | h
     · exact hL (hh.2 h)
     · rcases hh.1 with h4 | h4
       · exact hL h4
       · exact h h4
   have hn : n ≠ 0 → ((48 ≤ qh s n ∧ qh s n ≤ 57) ∨ qh s n = 95) → NmI s (n + 1) := fun h h4 => eU h2 (.inr h4) fun e => absurd e h
   repeat' with_reducible first | apply And.intro | intro _
   all_goals first | omega | exact hb (by omega) | exact hn (by omega) (by omega)
theorem qzB : ∀ ds, Sorts (cName 59).sorts ds → BL.vc (TI N) ds := by
 refine qx fun s => zk ?_
 set_option linter.unusedSimpArgs false in
 simp (config := { maxSteps := 10000000 }) only [BL, e0, e1, e10, p11, e12, e13, q15, e16, e17, e18, p19, q20, q21, e31, TD, qj7, qj6, qj5, ν, κ, ο, γ, ω, ρ, χ, π, δ, ξ, υ, α, μ, β, η, τ, sln, fn1, fn2, z0, Tree.vc, PE.den, E.den, qK, BO.ev, List.getElem?_cons_zero, List.getElem?_cons_succ, List.cons_append, List.nil_append, Option.some.injEq, D.i.injEq, D.t.injEq, exists_eq_left', exists_const, forall_const, forall_eq', qY, qX, qo, zero_eq, min_i64, max_i64, min_u8, max_u8, and_true, true_and, Decidable.not_not, S20, zH, dB, P40]
 intro hs
 have hs0 := qN s
 have hb : ∀ n, 0 ≤ n → n < qy s → ¬ (((97 ≤ qh s n ∧ qh s n ≤ 122) ∨ (65 ≤ qh s n ∧ qh s n ≤ 90)) ∨ (n ≠ 0 ∧ ((48 ≤ qh s n ∧ qh s n ≤ 57) ∨ qh s n = 95))) → jN s = 0 := fun n h0 h1 h => VF h0 h1 fun hh => by
   unfold F7 lJ at hh
   omega
 have hn : ∀ n, NmI s n → n ≠ 0 → ((97 ≤ qh s n ∧ qh s n ≤ 122) ∨ (65 ≤ qh s n ∧ qh s n ≤ 90)) ∨ ((48 ≤ qh s n ∧ qh s n ≤ 57) ∨ qh s n = 95) → NmI s (n + 1) := fun n h h1 h2 => eU h (by unfold F7 lJ; omega) fun e => absurd e h1
 have hz : ((97 ≤ qh s 0 ∧ qh s 0 ≤ 122) ∨ (65 ≤ qh s 0 ∧ qh s 0 ≤ 90)) → ∀ n, NmI s n → 0 ≤ n → ((97 ≤ qh s n ∧ qh s n ≤ 122) ∨ (65 ≤ qh s n ∧ qh s n ≤ 90)) ∨ ((48 ≤ qh s n ∧ qh s n ≤ 57) ∨ qh s n = 95) → NmI s (n + 1) := fun h0 n h h1 h2 => by
   by_cases hn0 : n = 0
   · subst hn0
     exact eU h (.inl (by unfold lJ; omega)) fun _ => by unfold lJ; omega
   · exact hn n h hn0 h2
 have he : ∀ n, NmI s n → ¬ n < qy s → 1 ≤ qy s → qy s ≤ 16 → jN s = 1 := fun n h h1 h2 h3 => by rw [VD h h1 h2, if_pos h3]
 have hl := @Zv s
 have h00 : NmI s 0 := fun j h0 h1 => by omega
 repeat' with_reducible first | apply And.intro | intro _
 all_goals first | omega | exact h00 | (refine hz (by omega) _ (by assumption) (by omega) (by omega)) | exact hb 0 (by omega) (by omega) (by omega) | exact hl (by omega) | (refine hb _ (by assumption) (by assumption) (by omega)) | (refine he _ (by assumption) (by assumption) (by omega) (by omega))
end Go.Tt
namespace Go.Tt
open Go Go.Sx Go.Lib Go.Sf
variable {N : Nat}
theorem dash : qj 23 = [45] := rfl
theorem eY {s m : Int} (hs : qj s = itoa m) : qj (trimS s 23) = decDigits m.natAbs := by
 unfold trimS; rw [qm, dash, hs, Ni]
theorem cO {s : Int} (h : ∀ m, I64 m → qj s = itoa m → False) {e : Int} (he : e ≠ 0) (a : Int) : mq s a e := .inr ⟨he, fun m hm hs => h m hm hs⟩
theorem EC {s n : Int} (h0 : 0 ≤ n) (h1 : n < qy (trimS s 23)) (h : ¬ 48 ≤ qh (trimS s 23) n ∨ ¬ qh (trimS s 23) n ≤ 57) (a : Int) : mq s a 6 := by
 refine cO (fun m hm hs => ?_) (by decide) a
 obtain ⟨c, _, h2, h3⟩ := jW h0 h1
 rw [eY hs] at h2
 have := ko _ c h2
 omega
theorem RZ {s : Int} (h : trimS s 23 = 0) (a : Int) : mq s a 6 := by
 refine cO (fun m hm hs => ?_) (by decide) a
 have h1 := eY hs
 rw [h] at h1
 exact absurd h1.symm (sI _)
theorem Un {s : Int} (h0 : 0 < qy (trimS s 23)) (h : qh (trimS s 23) 0 = 48) (h2 : 1 < qy (trimS s 23) ∨ hpre s 23 ≠ 0) (a : Int) : mq s a 6 := by
 refine cO (fun m hm hs => ?_) (by decide) a
 obtain ⟨c, h3, _, h4⟩ := jW (Int.le_refl 0) h0
 have h5 : (decDigits m.natAbs)[0]? = some c := by rw [← eY hs]; exact h3
 have h6 := Xa h5 (by omega)
 have h7 : m = 0 := by omega
 subst h7
 rcases h2 with h2 | h2
 · have h8 : qy (trimS s 23) = 1 := by
     unfold qy; rw [eY hs]; rw [wQ (by decide)]; rfl
   omega
 · apply absurd ?_ h2
   unfold hpre
   rw [dash, hs, TT]
   rfl
theorem ET {s : Int} (h : ¬ bA (qj s) = 0) (a : Int) : mq s a 7 := by
 refine cO (fun m hm hs => ?_) (by decide) a
 apply absurd ?_ h
 unfold bA
 rw [hs, tX hm.1 hm.2]
theorem XE {s : Int} : (hpre s 23 ≠ 0 → qj s = 45 :: qj (trimS s 23)) ∧ (hpre s 23 = 0 → qj (trimS s 23) = qj s) := by
 unfold hpre trimS Lib.trimPrefix Lib.hasPrefix
 rw [dash, qm]
 cases hl : qj s with
 | nil => simp
 | cons c r =>
   by_cases hc : (45 : UInt8) = c
   · subst hc; simp
   · simp [hc]
theorem qwS {s n : Int} (hd : R9 (trimS s 23) n) (hn : ¬ n < qy (trimS s 23)) (h0 : ¬ trimS s 23 = 0) (hz : qh (trimS s 23) 0 = 48 → ¬ 1 < qy (trimS s 23) ∧ hpre s 23 = 0) (he : bA (qj s) = 0)
   (hr : I64 (wR (qj s))) : mq s (wR (qj s)) 0 := by
 have hcan : Canon (qj (trimS s 23)) := by
   refine ⟨gF.2 h0, fun b hb => ?_, fun b hb h48 => ?_⟩
   · obtain ⟨m, h1, h2, h3⟩ := dh hb
     have := hd m h1 (by omega)
     omega
   · rw [List.head?_eq_getElem?] at hb
     have e : qh (trimS s 23) 0 = (b.toNat : Nat) := by unfold qh; rw [show ((0 : Int).toNat) = 0 from rfl, hb]; rfl
     have h1 := (hz (by omega)).1
     have h2 := Vj h0
     unfold qy at h1 h2
     omega
 refine .inl ⟨rfl, hr, ?_⟩
 unfold bA at he
 unfold wR
 cases hp : parseIntB 64 (qj s) with
 | ok v =>
   by_cases h : hpre s 23 = 0
   · rw [XE.2 h] at hcan
     exact PN hcan hp
   · have e := XE.1 h
     rw [e] at hp ⊢
     refine PS hcan (fun h48 => ?_) hp
     rw [List.head?_eq_getElem?] at h48
     have e2 : qh (trimS s 23) 0 = 48 := by unfold qh; rw [show ((0 : Int).toNat) = 0 from rfl, h48]; rfl
     exact h (hz e2).2
 | range => rw [hp] at he; simp at he
 | _ => rw [hp] at he; simp at he
theorem Sr (s p : Int) : qy (trimS s p) ≤ qy s := by
 unfold trimS
 rw [zP]
 unfold Lib.trimPrefix qy
 split
 · rw [List.length_drop]; omega
 · omega
theorem UA {s n : Int} (h : R9 s n) (h1 : 48 ≤ qh s n) (h2 : qh s n ≤ 57) : R9 s (n + 1) := by
 intro j h3 h4
 by_cases hj : j < n
 · exact h j h3 hj
 · obtain rfl : j = n := by omega
   exact ⟨h1, h2⟩
theorem qgc : ∀ ds, Sorts (XV 69).sorts ds → qz2.vc (TI N) ds := by
 refine qx fun s => zk ?_
 set_option linter.unusedSimpArgs false in
 simp (config := { maxSteps := 10000000 }) only [qz2, e0, e1, e2, p3, q4, e5, e6, e7, q8, q9, ν, κ, ο, γ, ω, ρ, χ, π, δ, ξ, υ, α, μ, β, η, τ, sln, fn1, fn2, z0, Tree.vc, PE.den, E.den, qK, BO.ev, List.getElem?_cons_zero, List.getElem?_cons_succ, List.cons_append, List.nil_append, Option.some.injEq, D.i.injEq, D.t.injEq, exists_eq_left', exists_const, forall_const, forall_eq', qY, qX, qo, zero_eq, min_i64, max_i64, min_u8, max_u8, and_true, true_and, Decidable.not_not, S8, S9, S10, S11, zH, dB, P10, P73]
 intro hs _ _ _ _
 have hn := qN (trimS s 23)
 have htl := Sr s 23
 have hpos := @Vj (trimS s 23)
 have hb1 := @EC s
 have hb2 := @RZ s
 have hb3 := @Un s
 have hb4 := @ET s
 have hb5 := @qwS s
 have hb6 := @UA (trimS s 23)
 have h00 : R9 (trimS s 23) 0 := fun j h0 h1 => by omega
 repeat' with_reducible first | apply And.intro | intro _
 all_goals first
   | omega | exact h00 | (refine hb1 (by assumption) (by assumption) (by omega) _) | exact hb2 (by assumption) _ | exact hb3 (by omega) (by assumption) (by omega) _ | exact hb4 (by assumption) _
   | (refine hb6 (by assumption) (by assumption) (by assumption))
   | (refine hb5 (by assumption) (by assumption) (by assumption) (fun _ => by omega) (by assumption) ⟨by omega, by omega⟩)
   | (exact absurd (hpos (by assumption)) (by omega))
theorem q10 {n : Int} (h : I64 n) : jH 6 IntKind.i64 n 10 = n.tdiv 10 := by
 obtain ⟨h0, h1⟩ := h
 show IntKind.i64.wrap (n.tdiv 10) = _
 refine w64 ?_
 rcases Int.le_total 0 n with h2 | h2
 · rw [Int.tdiv_eq_ediv_of_nonneg h2]; omega
 · obtain ⟨u, hu⟩ := Int.eq_ofNat_of_zero_le (show 0 ≤ -n by omega)
   have hn : n = -(u : Int) := by omega
   rw [hn, Int.neg_tdiv, Int.tdiv_eq_ediv_of_nonneg (by omega)]; omega
theorem SK {n : Int} (h : I64 n) : I64 (n.tdiv 10) := by
 obtain ⟨h0, h1⟩ := h
 rcases Int.le_total 0 n with h2 | h2
 · rw [Int.tdiv_eq_ediv_of_nonneg h2]; constructor <;> omega
 · obtain ⟨u, hu⟩ := Int.eq_ofNat_of_zero_le (show 0 ≤ -n by omega)
   have hn : n = -(u : Int) := by omega
   rw [hn, Int.neg_tdiv, Int.tdiv_eq_ediv_of_nonneg (by omega)]; constructor <;> omega
theorem Sl (n : Int) : -10 < n.tmod 10 ∧ n.tmod 10 < 10 := by
 rcases Int.le_total 0 n with h2 | h2
 · rw [Int.tmod_eq_emod_of_nonneg h2]; omega
 · obtain ⟨u, hu⟩ := Int.eq_ofNat_of_zero_le (show 0 ≤ -n by omega)
   have hn : n = -(u : Int) := by omega
   rw [hn, Int.neg_tmod, Int.tmod_eq_emod_of_nonneg (by omega)]; omega
theorem bT {n : Int} (h : I64 n) : qy (qZ (itoa n)) ≤ 20 := by
 rw [zP]
 have := jB h
 omega
theorem qyO : ∀ ds, Sorts (gZ 21).sorts ds → SC.vc (TI N) ds := by
 refine qx fun n => zk ?_
 set_option linter.unusedSimpArgs false in
 simp (config := { maxSteps := 10000000 }) only [SC, e6, e296, e297, e298, e299, e300, e301, ν, κ, ο, γ, ω, ρ, χ, π, δ, ξ, υ, α, μ, β, η, τ, sln, fn1, fn2, z0, Tree.vc, PE.den, E.den, qK, BO.ev, List.getElem?_cons_zero, List.getElem?_cons_succ, List.cons_append, List.nil_append, Option.some.injEq, D.i.injEq, D.t.injEq, exists_eq_left', exists_const, forall_const, forall_eq', qY, qX, qo, zero_eq, min_i64, max_i64, min_u8, max_u8, and_true, true_and, Decidable.not_not, S3, zH, K7, qgv, P20, P21]
 intro hn hN
 have hn' : I64 n := hn
 rw [q10 hn']
 have r1 := SK hn'
 have r2 := Sl n
 have r2' : I64 (n.tmod 10) := ⟨by omega, by omega⟩
 have r3 : I64 (0 - n.tmod 10) := ⟨by omega, by omega⟩
 refine ⟨fun h0 => ⟨fun h1 => ?_, fun h1 => ?_⟩, fun h0 => ⟨fun h1 => ?_, fun h1 => ?_⟩⟩
 · have e : (0 : Int) - n = -n := by omega
   have r4 : I64 (-n) := ⟨by omega, by omega⟩
   rw [e]
   have := UE h0 h1
   have hl := bT r4
   refine ⟨r4, by omega, by omega, ?_⟩
   rw [Ra h0 h1]
   unfold QJ
   rw [dash, qm]; rfl
 · have := U0 (n := n) (by omega)
   have e : (0 : Int) - n.tmod 10 = -(n.tmod 10) := by omega
   rw [e] at r3 ⊢
   have hl := bT r1
   have hl2 := bT r3
   refine ⟨r1, by omega, r3, by omega, by omega, ?_⟩
   rw [vJ, ← RQ (by omega)]
 · refine ⟨⟨by omega, by omega⟩, ⟨_, _, rfl, rfl, fun i hi => ?_⟩, ?_⟩
   · have : (i : Int) = 0 := by omega
     simp only [qg, this, and_self, if_true]
     rw [w8 (by omega)]; omega
   · rw [Fb (by omega) h1]
     unfold H6
     congr 1
     simp only [Int.toNat_one, List.range_one, List.map_cons, List.map_nil, qg, Int.natCast_zero, and_self, if_true]
     rw [w8 (by omega)]
     congr 2; omega
 · have := qqs (n := n) (by omega)
   have hl := bT r1
   have hl2 := bT r2'
   refine ⟨r1, by omega, r2', by omega, by omega, ?_⟩
   rw [vJ, ← L8 (by omega)]
theorem p9 {s m n : Int} (hs : qj s = itoa m) (h0 : 0 ≤ n) (h1 : n < qy s) (h : 1 ≤ n ∨ ¬ qh s 0 = 45) : 48 ≤ qh s n ∧ qh s n ≤ 57 := by
 obtain ⟨c, h2, h3, h4⟩ := jW h0 h1
 rw [hs] at h2
 by_cases hm : m < 0
 · unfold itoa at h2
   rw [if_pos hm] at h2
   by_cases hn : n = 0
   · exfalso
     subst hn
     have hc : c = 45 := by simpa using h2.symm
     subst hc
     rcases h with h | h
     · omega
     · exact h h4
   · obtain ⟨k, hk⟩ : ∃ k : Nat, n.toNat = k + 1 := ⟨n.toNat - 1, by omega⟩
     rw [hk, List.getElem?_cons_succ] at h2
     have := ko _ c (List.mem_of_getElem? h2)
     omega
 · unfold itoa at h2
   rw [if_neg hm] at h2
   have := ko _ c (List.mem_of_getElem? h2)
   omega
theorem Qb {s m : Int} (hs : qj s = itoa m) (q : Int) (hq : q = (if m < 0 then 1 else 0)) (h1 : q < qy s) (h : qh s q = 48) : ¬ q + 1 < qy s ∧ m = 0 := by
 have hq0 : 0 ≤ q := by rw [hq]; split <;> omega
 obtain ⟨c, h2, _, h4⟩ := jW hq0 h1
 rw [hs] at h2
 have h5 : (decDigits m.natAbs)[0]? = some c := by
   unfold itoa at h2
   by_cases hm : m < 0
   · rw [if_pos hm] at hq h2
     subst hq
     simpa using h2
   · rw [if_neg hm] at hq h2
     subst hq
     have : m.toNat = m.natAbs := by omega
     rw [this] at h2
     simpa using h2
 have h6 := Xa h5 (by omega)
 have h7 : m = 0 := by omega
 subst h7
 refine ⟨?_, rfl⟩
 simp at hq
 subst hq
 unfold qy
 rw [hs]
 unfold itoa
 rw [if_neg (by omega), wQ (by decide)]
 simp
theorem W9 {s m : Int} (hs : qj s = itoa m) : (qh s 0 = 45 ↔ m < 0) := by
 unfold qh
 rw [hs]
 unfold itoa
 by_cases hm : m < 0
 · rw [if_pos hm]; simp [hm]
 · rw [if_neg hm]
   have hd := ko m.toNat
   have hne := sI m.toNat
   generalize decDigits m.toNat = l at hd hne
   cases l with
   | nil => exact absurd rfl hne
   | cons c r =>
     have hc := hd c (by simp)
     simp [hm]
     omega
theorem LV {s m : Int} (hs : qj s = itoa m) : (if m < 0 then (1 : Int) else 0) < qy s := by
 unfold qy
 rw [hs]
 unfold itoa
 by_cases hm : m < 0
 · rw [if_pos hm, if_pos hm]
   have := List.length_pos_iff.2 (sI m.natAbs)
   simp only [List.length_cons]; omega
 · rw [if_neg hm, if_neg hm]
   have := List.length_pos_iff.2 (sI m.toNat)
   omega
theorem rX {s m : Int} (hs : qj s = itoa m) : ¬ s = 6295 := by
 intro h
 subst h
 have e : qj 6295 = [45, 48] := rfl
 rw [e] at hs
 have h1 : m < 0 := by
   have := (W9 (s := 6295) (by rw [e]; exact hs)).1 rfl
   exact this
 have h2 : decDigits m.natAbs = [48] := by
   unfold itoa at hs
   rw [if_pos h1] at hs
   simpa using hs.symm
 have := Xa (u := m.natAbs) (b := 48) (by rw [h2]; rfl) rfl
 omega
theorem qzY : ∀ ds, Sorts XJ.sorts ds → BP.vc (TI N) ds := by
 refine qx fun s => zk ?_
 set_option linter.unusedSimpArgs false in
 simp (config := { maxSteps := 10000000 }) only [BP, e0, e1, e10, p11, e12, e13, e16, e17, e18, p19, q20, e31, JB, TF, qkx, qky, ν, κ, ο, γ, ω, ρ, χ, π, δ, ξ, υ, α, μ, β, η, τ, sln, fn1, fn2, z0, Tree.vc, PE.den, E.den, qK, BO.ev, List.getElem?_cons_zero, List.getElem?_cons_succ, List.cons_append, List.nil_append, Option.some.injEq, D.i.injEq, D.t.injEq, exists_eq_left', exists_const, forall_const, forall_eq', qY, qX, qo, zero_eq, min_i64, max_i64, min_u8, max_u8, and_true, true_and, Decidable.not_not, zH, dB, P11]
 intro hl
 have hn := qN s
 have neg : qh s 0 = 45 → ∀ m, qj s = itoa m → m < 0 := fun h m hs => (W9 hs).1 h
 have pos : ¬ qh s 0 = 45 → ∀ m, qj s = itoa m → ¬ m < 0 := fun h m hs hm => h ((W9 hs).2 hm)
 refine ⟨fun h0 => ⟨fun hq => ⟨by omega, fun n h1 h2 => ⟨fun h3 => ⟨by omega, fun h4 => ⟨fun h5 m _ hs => ?_, fun _ => by omega⟩, fun h4 m _ hs => ?_⟩, fun h3 => ⟨fun h4 m _ hs => ?_, fun h4 => ⟨by omega, fun h5 => ⟨fun h6 m _ hs => ?_, fun _ m _ hs => rX hs⟩, fun _ m _ hs => rX hs⟩⟩⟩⟩,
   fun hq => ⟨hn, fun n h1 h2 => ⟨fun h3 => ⟨fun h4 => ⟨fun h5 m _ hs => ?_, fun _ => by omega⟩, fun h4 m _ hs => ?_⟩, fun h3 => ⟨fun h4 => by omega, fun h4 => ⟨fun h5 => ⟨fun h6 m _ hs => ?_, fun _ m _ hs => rX hs⟩, fun _ m _ hs => rX hs⟩⟩⟩⟩⟩, fun h0 => ⟨hn, fun n h1 h2 => ⟨fun h3 => by omega, fun h3 => ⟨fun h4 m _ hs => ?_, fun h4 => by omega⟩⟩⟩⟩
 · exact absurd (p9 hs (by omega) h3 (.inl h1)).2 h5
 · exact absurd (p9 hs (by omega) h3 (.inl h1)).1 h4
 · have := LV hs
   rw [if_pos (neg hq m hs)] at this
   omega
 · have hm := neg hq m hs
   have := (Qb hs 1 (by rw [if_pos hm]) (by omega) h5).2
   omega
 · exact absurd (p9 hs h1 h3 (.inr hq)).2 h5
 · exact absurd (p9 hs h1 h3 (.inr hq)).1 h4
 · have hm := pos hq m hs
   have := (Qb hs 0 (by rw [if_neg hm]) (by omega) h5).1
   omega
 · have := LV hs
   split at this <;> omega
theorem BZ (x : Int) : I64 (IntKind.i64.wrap x) := by
 unfold I64
 simp only [IntKind.wrap, IntKind.signed, IntKind.bits, Int.reducePow, Bool.true_and]
 split
 · rename_i h; simp at h; omega
 · rename_i h; simp at h; omega
theorem Nn (l : List UInt8) : ∀ i, I64 (fA l i)
 | 0 => ⟨by simp [fA], by simp [fA]⟩
 | i + 1 => by
   simp only [fA]
   split
   · exact BZ _
   · exact Nn l i
theorem Ii {s n : Int} (h0 : 0 ≤ n) : fA (qj s) (n + 1).toNat =
   if 48 ≤ qh s n ∧ qh s n ≤ 57 then IntKind.i64.wrap (IntKind.i64.wrap (10 * fA (qj s) n.toNat) + if qh s 0 = 45 then -IntKind.i64.wrap (IntKind.u8.wrap (qh s n - 48)) else IntKind.i64.wrap (IntKind.u8.wrap (qh s n - 48)))
   else fA (qj s) n.toNat := by
 have : (n + 1).toNat = n.toNat + 1 := by omega
 rw [this]
 rfl
theorem Ur {s : Int} (h : 20 < qy s) (a : Int) : mq s a 7 := by
 refine cO (fun m hm hs => ?_) (by decide) a
 have := jB hm
 unfold qy at h
 rw [hs] at h
 omega
theorem qyI : ∀ ds, Sorts (XV 79).sorts ds → SS.vc (TI N) ds := by
 refine qx fun s => zk ?_
 set_option linter.unusedSimpArgs false in
 simp (config := { maxSteps := 10000000 }) only [SS, e0, e1, q4, q8, e23, p24, e25, e26, e28, e31, e306, e307, e308, e309, e310, Aw, qkw, ν, κ, ο, γ, ω, ρ, χ, π, δ, ξ, υ, α, μ, β, η, τ, sln, fn1, fn2, z0, Tree.vc, PE.den, E.den, qK, BO.ev, List.getElem?_cons_zero, List.getElem?_cons_succ, List.cons_append, List.nil_append, Option.some.injEq, D.i.injEq, D.t.injEq, exists_eq_left', exists_const, forall_const, forall_eq', qY, qX, qo, zero_eq, min_i64, max_i64, min_u8, max_u8, and_true, true_and, Decidable.not_not, S3, S12, zH, dB, P10, P11]
 intro hl w hw
 have hn := qN s
 refine ⟨fun h => cO (fun m hm hs => hw m hm hs h) (by decide) 0, fun _ => ⟨fun h => Ur h 0, fun h20 => ⟨hn, rfl, ?_⟩⟩⟩
 rintro n _ h0 h1 rfl
 have hst := Ii (s := s) h0
 have hb : 0 ≤ qh s n ∧ qh s n ≤ 255 := by
   unfold qh
   have := (((qj s)[n.toNat]?).getD 0).toNat_lt
   omega
 have hacc := Nn (qj s) n.toNat
 have w1 : n < qy s → IntKind.i64.wrap (n + 1) = n + 1 := fun h => w64 (by omega)
 refine ⟨fun h2 => ?_, fun h2 => ?_⟩
 · rw [w1 h2, hst]
   refine ⟨fun h3 => ⟨fun h4 => ⟨by omega, fun h5 => ?_, fun h5 => ?_⟩, fun h4 => ?_⟩, fun h3 => ?_⟩
   · have e := w8 (x := qh s n - 48) (by omega)
     have e2 := w64 (x := qh s n - 48) (by omega)
     rw [if_pos ⟨h3, h4⟩, if_pos h5, e, e2, Int.zero_sub]
     exact ⟨by omega, by omega, by omega, rfl, by omega, by omega⟩
   · rw [if_pos ⟨h3, h4⟩, if_neg h5]
     exact ⟨by omega, by omega, rfl, by omega, by omega⟩
   · rw [if_neg (by omega)]
     exact ⟨by omega, by omega, rfl, by omega, by omega⟩
   · rw [if_neg (by omega)]
     exact ⟨by omega, by omega, rfl, by omega, by omega⟩
 · have hN : n.toNat = (qj s).length := by
     have h3 : n = qy s := by omega
     rw [h3]; unfold qy; omega
   refine ⟨hacc, fun h3 => cO (fun m hm hs => ?_) (by decide) 0, fun h3 => ⟨fun h => absurd hacc.1 (by omega), fun _ => ⟨fun h => absurd hacc.2 (by omega), fun _ => .inl ⟨rfl, hacc, ?_⟩⟩⟩⟩
   · apply absurd ?_ h3
     rw [hN, hs, R6 hm, ← hs, zf]
   · have h3 : qZ (itoa (fA (qj s) n.toNat)) = s := by simpa using h3
     have h5 := congrArg qj h3
     rw [qm] at h5
     exact h5.symm
end Go.Tt
namespace Go.Tt
open Go Go.Sx Go.Lib Go.Sf
variable {N : Nat}
theorem X0 {s n : Int} (h0 : 0 ≤ n) (h1 : n < qy s) (h : qh s n < 32 ∨ 126 < qh s n) : Bp s 0 := by
 refine ⟨fun h => absurd rfl h, fun ⟨_, hc⟩ => ?_⟩
 obtain ⟨c, _, h2, h3⟩ := jW h0 h1
 have := hc c h2
 omega
theorem SQ {s n : Int} (h : F6 s 32 n) (hn : ¬ n < qy s) : Bp s (if qy s ≤ 200 then 1 else 0) := by
 by_cases hl : qy s ≤ 200
 · rw [if_pos hl]
   refine ⟨fun _ => ⟨by unfold qy at hl; omega, fun c hc => ?_⟩, fun _ => by decide⟩
   obtain ⟨m, h1, h2, h3⟩ := dh hc
   have := h m h1 (by omega)
   omega
 · rw [if_neg hl]
   refine ⟨fun h => absurd rfl h, fun ⟨h1, _⟩ => ?_⟩
   unfold qy at hl
   omega
theorem qyR : ∀ ds, Sorts G7.sorts ds → SV.vc (TI N) ds := by
 refine qx fun s => zk ?_
 set_option linter.unusedSimpArgs false in
 simp (config := { maxSteps := 10000000 }) only [SV, e0, e1, e10, p11, e12, e13, e18, p19, q20, ν, κ, ο, γ, ω, ρ, χ, π, δ, ξ, υ, α, μ, β, η, τ, sln, fn1, fn2, z0, Tree.vc, PE.den, E.den, qK, BO.ev, List.getElem?_cons_zero, List.getElem?_cons_succ, List.cons_append, List.nil_append, Option.some.injEq, D.i.injEq, D.t.injEq, exists_eq_left', exists_const, forall_const, forall_eq', qY, qX, qo, zero_eq, min_i64, max_i64, min_u8, max_u8, and_true, true_and, Decidable.not_not, zH, dB, P14, P42]
 have := qN s
 have h00 : F6 s 32 0 := fun j h0 h1 => by omega
 intro h
 refine ⟨this, h00, fun n h0 h1 h2 => ⟨fun h3 => ⟨fun h4 => X0 h0 h3 (.inl h4), fun h4 => ⟨fun h5 => X0 h0 h3 (.inr h5), fun h5 => ?_⟩⟩, fun h3 => SQ h2 h3⟩⟩
 have := Ve h2 h4 h5
 repeat' with_reducible first | apply And.intro | intro _
 all_goals first | omega | exact this
theorem qgh : ∀ ds, Sorts qqa.sorts ds → qzU.vc (TI N) ds := by
 refine qx fun s => zk ?_
 set_option linter.unusedSimpArgs false in
 simp (config := { maxSteps := 10000000 }) only [qzU, e0, e1, e6, e10, p11, e12, e13, e18, p19, q20, e31, e32, e33, e43, p66, e80, p81, Dc, e318, e319, ν, κ, ο, γ, ω, ρ, χ, π, δ, ξ, υ, α, μ, β, η, τ, sln, fn1, fn2, z0, Tree.vc, PE.den, E.den, qK, BO.ev, List.getElem?_cons_zero, List.getElem?_cons_succ, List.cons_append, List.nil_append, Option.some.injEq, D.i.injEq, D.t.injEq, exists_eq_left', exists_const, forall_const, forall_eq', qY, qX, qo, zero_eq, min_i64, max_i64, min_u8, max_u8, and_true, true_and, Decidable.not_not, zH, K7, K6, dB, P14]
 intro hl
 have hn := qN s
 rw [vH]
 refine ⟨by omega, fun h2 => ⟨by omega, fun _ => by omega, fun hq => ⟨by omega, by omega, by omega, fun _ => by omega, fun _ => ⟨by omega, by omega, fun n o h3 h4 h5 => ?_⟩⟩⟩⟩
 have hs := (yB s n (n + 1)).1
 have hs1 : qy (jZ s n (n + 1)) ≤ 1 := by omega
 have hsn := qN (jZ s n (n + 1))
 rw [vZ]
 repeat' first | omega | apply And.intro | intro _ | trivial
theorem Pp {q s n : Int} (h0 : 0 ≤ n) (h1 : n < qy s) (h : qh s n = 32 ∨ qh s n = 34) : pI q s 0 := by
 intro _
 refine ⟨fun h => absurd rfl h, fun ⟨_, _, hc⟩ => ?_⟩
 obtain ⟨c, _, h2, h3⟩ := jW h0 h1
 have := hc c h2
 omega
theorem Pn {q s n b : Int} (h : NbI s n) (hn : ¬ n < qy s) (h0 : ¬ qy s = 0) (ht : Bp s b) : pI q s b := by
 intro _
 refine ⟨fun hb => ?_, fun ⟨_, h1, h2⟩ => ht.2 ⟨h1, fun c hc => by have := h2 c hc; omega⟩⟩
 obtain ⟨h1, h2⟩ := ht.1 hb
 refine ⟨gF.2 fun e => h0 (by rw [e]; rfl), h1, fun c hc => ?_⟩
 obtain ⟨m, h3, h4, h5⟩ := dh hc
 have := h m h3 (by omega)
 have := h2 c hc
 omega
theorem oI {q s : Int} (h : qy s = 0) : pI q s 0 := by
 intro _
 refine ⟨fun h => absurd rfl h, fun ⟨h1, _⟩ => ?_⟩
 exact absurd (iw h) (gF.1 h1)
theorem Er {s n : Int} (h : NbI s n) (h1 : ¬ qh s n = 32) (h2 : ¬ qh s n = 34) : NbI s (n + 1) := by
 intro j h3 h4
 by_cases hj : j < n
 · exact h j h3 hj
 · obtain rfl : j = n := by omega
   exact ⟨h1, h2⟩
theorem qzG : ∀ ds, Sorts XY.sorts ds → BS.vc (TI N) ds := by
 refine qx fun q => qx fun s => zk ?_
 set_option linter.unusedSimpArgs false in
 simp (config := { maxSteps := 10000000 }) only [BS, e1, e23, e28, e34, p36, q39, q40, ν, κ, ο, γ, ω, ρ, χ, π, δ, ξ, υ, α, μ, β, η, τ, sln, fn1, fn2, z0, Tree.vc, PE.den, E.den, qK, BO.ev, List.getElem?_cons_zero, List.getElem?_cons_succ, List.cons_append, List.nil_append, Option.some.injEq, D.i.injEq, D.t.injEq, exists_eq_left', exists_const, forall_const, forall_eq', qY, qX, qo, zero_eq, min_i64, max_i64, min_u8, max_u8, and_true, true_and, Decidable.not_not, zH, dB, P14, P15, P74]
 intro hl
 have hn := qN s
 have h00 : NbI s 0 := fun j h0 h1 => by omega
 have b1 := @Pp q s
 have b2 := @Pn q s
 have b3 := @oI q s
 have b4 := @Er s
 have b5 : ∀ b, ¬ q = 0 → pI q s b := fun b h h0 => absurd h0 h
 repeat' with_reducible first | apply And.intro | intro _
 all_goals first | omega | exact h00 | exact b5 _ (by assumption) | exact b3 (by assumption) | (refine b1 (by assumption) (by assumption) (.inl (by assumption))) | (refine b1 (by assumption) (by assumption) (.inr (by assumption))) | (refine b2 (by assumption) (by assumption) (by assumption) (by assumption)) | (refine b4 (by assumption) (by assumption) (by assumption))
theorem VQ {s b : Int} (h : IZ s 33 b) : b ≠ 0 ↔ ∀ c ∈ qj s, 33 ≤ c.toNat ∧ c.toNat ≤ 126 :=
 ⟨fun hb c hc => by have := h.1 hb c hc; omega, fun hc => h.2 fun c h1 => by have := hc c h1; omega⟩
theorem KV {s : Int} : hasB s 34 = 0 ↔ ∀ c ∈ qj s, c.toNat ≠ 34 := by
 unfold hasB
 have e : UInt8.ofNat (34 : Int).toNat = 34 := rfl
 rw [e]
 by_cases h : (34 : UInt8) ∈ qj s
 · rw [if_pos h]
   exact ⟨(fun h => by cases h), fun hh => absurd rfl (hh 34 h)⟩
 · rw [if_neg h]
   refine ⟨fun _ c hc h34 => ?_, fun _ => rfl⟩
   have : c = 34 := UInt8.toNat.inj h34
   subst this
   exact h hc
theorem qgn : ∀ ds, Sorts qqe.sorts ds → qzO.vc (TI N) ds := by
 refine qx fun q => qx fun s => zk ?_
 set_option linter.unusedSimpArgs false in
 simp (config := { maxSteps := 10000000 }) only [qzO, e1, e34, e35, p36, p37, q39, q40, e41, ν, κ, ο, γ, ω, ρ, χ, π, δ, ξ, υ, α, μ, β, η, τ, sln, fn1, fn2, z0, Tree.vc, PE.den, E.den, qK, BO.ev, List.getElem?_cons_zero, List.getElem?_cons_succ, List.cons_append, List.nil_append, Option.some.injEq, D.i.injEq, D.t.injEq, exists_eq_left', exists_const, forall_const, forall_eq', qY, qX, qo, zero_eq, min_i64, max_i64, min_u8, max_u8, and_true, true_and, Decidable.not_not, zH, P15, S15, P41]
 intro hl
 have b5 : ∀ b, ¬ q = 0 → pI q s b := fun b h h0 => absurd h0 h
 refine ⟨fun hq => ⟨fun _ _ _ => b5 _ hq, fun _ => b5 _ hq⟩, fun hq => ⟨fun hne => ⟨fun qw7 w hw => ⟨fun h1 _ => ?_, fun h1 => ?_⟩, fun qw7 => ?_⟩, fun h0 => ?_⟩⟩
 · have h2 := (VQ hw).1 h1
   by_cases h3 : hasB s 34 = 0
   · rw [if_pos h3]
     have h4 := KV.1 h3
     refine ⟨fun _ => ⟨gF.2 hne, by unfold qy at qw7; omega, fun c hc => ?_⟩, fun _ => by decide⟩
     have := h2 c hc
     have := h4 c hc
     omega
   · rw [if_neg h3]
     refine ⟨fun h => absurd rfl h, fun ⟨_, _, h4⟩ => ?_⟩
     exact absurd (KV.2 fun c hc => (h4 c hc).2.2) h3
 · intro _
   refine ⟨fun h => absurd rfl h, fun ⟨_, _, h4⟩ => ?_⟩
   exact absurd h1 ((VQ hw).2 fun c hc => by have := h4 c hc; omega)
 · intro _
   refine ⟨fun h => absurd rfl h, fun ⟨_, h4, _⟩ => ?_⟩
   unfold qy at qw7
   omega
 · subst h0
   exact oI rfl
theorem qyP : ∀ ds, Sorts M9.sorts ds → SX.vc (TI N) ds := by
 refine qx fun s => zk ?_
 set_option linter.unusedSimpArgs false in
 simp (config := { maxSteps := 10000000 }) only [SX, e0, e1, e6, q30, e31, e32, e33, e34, e35, p36, p37, e38, ν, κ, ο, γ, ω, ρ, χ, π, δ, ξ, υ, α, μ, β, η, τ, sln, fn1, fn2, z0, Tree.vc, PE.den, E.den, qK, BO.ev, List.getElem?_cons_zero, List.getElem?_cons_succ, List.cons_append, List.nil_append, Option.some.injEq, D.i.injEq, D.t.injEq, exists_eq_left', exists_const, forall_const, forall_eq', qY, qX, qo, zero_eq, min_i64, max_i64, min_u8, max_u8, and_true, true_and, Decidable.not_not, zH, K7, K6, dB, P41]
 intro hl
 have hn := qN s
 have h0 := vH
 have hs := (yB s 1 (qy s - 1)).2
 have hq : qy (-18) = 1 := rfl
 repeat' with_reducible first | apply And.intro | intro _
 all_goals first | exact True.intro | omega | (rw [vZ, hq]; omega)
theorem qgi : ∀ ds, Sorts qqJ.sorts ds → qz5.vc (TI N) ds := by
 refine qx fun s => qx fun a => zk ?_
 set_option linter.unusedSimpArgs false in
 simp (config := { maxSteps := 10000000 }) only [qz5, e0, e1, e10, p11, e12, e13, e18, p19, e23, p24, e25, e26, e28, q29, qkk, e314, qkj, qkz, ν, κ, ο, γ, ω, ρ, χ, π, δ, ξ, υ, α, μ, β, η, τ, sln, fn1, fn2, z0, Tree.vc, PE.den, E.den, qK, BO.ev, List.getElem?_cons_zero, List.getElem?_cons_succ, List.cons_append, List.nil_append, Option.some.injEq, D.i.injEq, D.t.injEq, exists_eq_left', exists_const, forall_const, forall_eq', qY, qX, qo, zero_eq, min_i64, max_i64, min_u8, max_u8, and_true, true_and, Decidable.not_not, zH, dB, P12, P13]
 intro hl h0 h1
 refine ⟨fun hq => ?_, fun hq => ?_⟩
 · have nb : ∀ n, NoB s a n := fun n h => absurd hq h
   have ep : ∀ n, R8 s a n := fun n h => absurd hq h
   refine ⟨by omega, by omega, by omega, nb _, fun n h2 h3 _ => ⟨fun h4 => ⟨by omega, fun _ => ⟨by omega, fun _ => ⟨by omega, by omega, ep _⟩, fun _ => ⟨by omega, by omega, fun _ => ⟨by omega, by omega, ep _⟩, fun _ => ⟨by omega, by omega, by omega, nb _, by omega, by omega⟩⟩⟩, fun _ => ⟨by omega, by omega, by omega, nb _, by omega, by omega⟩⟩, fun _ => ⟨by omega, by omega, ep _⟩⟩⟩
 · refine ⟨by omega, by omega, fun _ j h2 h3 => by omega, fun n h2 h3 h4 => ⟨fun h5 => ⟨by omega, fun h6 => ?_, fun h6 => ?_⟩, fun h5 => ?_⟩⟩
   · first
       | exact fun hq' => ⟨h4 hq', .inr h6⟩
       | exact ⟨by omega, by omega, fun hq' => ⟨h4 hq', .inr h6⟩⟩
   · refine ⟨by omega, by omega, by omega, fun hq' j h7 h8 => ?_, by omega, by omega⟩
     by_cases hj : j = n
     · subst hj; exact h6
     · exact h4 hq' j h7 (by omega)
   · have : n = qy s := by omega
     subst this
     first
       | exact ⟨by omega, fun hq' => ⟨h4 hq', .inl rfl⟩⟩
       | exact ⟨by omega, by omega, fun hq' => ⟨h4 hq', .inl rfl⟩⟩
end Go.Tt
namespace Go.Tt
open Go Go.Sx Go.Lib Go.Sf
variable {N : Nat}
theorem X9 {s : Int} (h : 4096 < qy s) (T : Tb) (n : Int) {e : Int} (he : e ≠ 0) : yX s T n e := ⟨fun _ _ _ h1 _ => by omega, fun h1 => absurd h1 he⟩
theorem Tx : yX 0 (fun _ _ => 0) 0 0 := by
 refine ⟨fun ws hB _ _ hs => ?_, fun _ _ => ⟨[], (fun _ h => by cases h), by simp, rfl, rfl, fun r hr => by omega⟩⟩
 have : ws = [] := by
   cases ws with
   | nil => rfl
   | cons w l =>
     exact absurd hs.symm (ZG (by simp) hB)
 subst this
 exact ⟨rfl, rfl, fun r hr => by omega⟩
theorem qyU : ∀ ds, Sorts Nk.sorts ds → SN.vc (TI N) ds := by
 refine qx fun s => zk ?_
 set_option linter.unusedSimpArgs false in
 simp (config := { maxSteps := 10000000 }) only [SN, e0, e1, p3, e5, e6, e10, e12, e13, e44, p49, q50, p51, q54, e58, p74, e83, e84, e320, e321, e322, qkq, qj9, e325, qj8, ν, κ, ο, γ, ω, ρ, χ, π, δ, ξ, υ, α, μ, β, η, τ, sln, fn1, fn2, z0, Tree.vc, PE.den, E.den, qK, BO.ev, List.getElem?_cons_zero, List.getElem?_cons_succ, List.cons_append, List.nil_append, Option.some.injEq, D.i.injEq, D.t.injEq, exists_eq_left', exists_const, forall_const, forall_eq', qY, qX, qo, zero_eq, min_i64, max_i64, min_u8, max_u8, and_true, true_and, Decidable.not_not, zH, K6, dB, P12, P15, P16, P17, P22]
 intro hl
 have hn := qN s
 have hb := NG s
 refine ⟨fun h => ⟨fun r h1 h2 => by omega, X9 (by omega) _ _ (by decide)⟩, fun qvE => ⟨by omega, fun r h1 h2 => by omega, hb, fun a T n h0 h1 h2 h3 hR hI => ⟨fun h4 r h5 h6 hE => ?_, fun h4 => ?_⟩⟩⟩
 · have hsub : qy (jZ s a r) ≤ 100000 := by have := (yB s a r).2; omega
   have hend : (r < qy s → qh s r = 32 ∧ ¬ r + 1 = qy s) ∨ (r < qy s ∧ (¬ qh s r = 32 ∨ r + 1 = qy s)) := by omega
   refine ⟨fun hq => ⟨hsub, fun x e hx => ?_⟩, fun hq => ⟨hsub, fun b hb => ?_⟩⟩
   · have bad : ∀ (T' : Tb) m e, e ≠ 0 → yX s T' m e := fun T' m e he => He hI.1 h0 h4 h5 h6 hE (.inl hq) T' m he
     have hnx := X8 hI.1 h0 h4 h5 h6 hE 1 x (fun h => absurd hq h)
     have hnj : (r < qy s → qh s r = 32 ∧ ¬ r + 1 = qy s) → Br s (r + 1) (qg (qg T n 0 1) n 1 x) (n + 1) := fun h => Kj hI.2 h0 h4 h2 h5 h6 (fun h => by cases h) h
     have hrn := vW (q := 1) hR hx
     repeat' with_reducible first | omega | (refine bad _ _ _ (by decide)) | exact hnx | exact hrn | (refine hnj (by omega)) | apply And.intro | intro _
   · have bad : (b = 0 ∨ (r < qy s ∧ (¬ qh s r = 32 ∨ r + 1 = qy s))) → ∀ (T' : Tb) m e, e ≠ 0 → yX s T' m e := fun h T' m e he => He hI.1 h0 h4 h5 h6 hE (by
       rcases h with h | h
       · subst h; exact .inr (.inl hb)
       · exact .inr (.inr h)) T' m he
     have hnx := X8 hI.1 h0 h4 h5 h6 hE 0 (jZ s a r) (fun _ => ⟨rfl, rfl⟩)
     have hnj : ¬ b = 0 → (r < qy s → qh s r = 32 ∧ ¬ r + 1 = qy s) → Br s (r + 1) (qg (qg T n 0 0) n 1 (jZ s a r)) (n + 1) := fun hb0 h => Kj hI.2 h0 h4 h2 h5 h6 (fun _ => ⟨rfl, (hb rfl).1 hb0⟩) h
     have hrn := vW (q := 0) hR hsub
     repeat' with_reducible first | omega | (refine bad (by omega) _ _ _ (by decide)) | exact hnx | exact hrn | (refine hnj (by omega) (by omega)) | apply And.intro | intro _
 · have he := Ol hI.1 hI.2 h0 h4
   have h00 : ∀ r : Int, 0 ≤ r → r < 0 → qy 0 ≤ 100000 := fun r h1 h2 => by omega
   repeat' with_reducible first | omega | (refine he.1 (by omega)) | (refine he.2 (by omega)) | exact hR | exact h00 | apply And.intro | intro _
theorem qwN {s v : Int} {u : Int} (h : IxI s v (qy s) u) : IxP s v (-1) u := .inl ⟨rfl, h⟩
theorem qgt : ∀ ds, Sorts qqQ.sorts ds → qz1.vc (TI N) ds := by
 refine qx fun s => qx fun v => zk ?_
 set_option linter.unusedSimpArgs false in
 simp (config := { maxSteps := 10000000 }) only [qz1, e0, e1, e23, p24, e25, e42, e43, e44, e45, q46, q47, q48, ν, κ, ο, γ, ω, ρ, χ, π, δ, ξ, υ, α, μ, β, η, τ, sln, fn1, fn2, z0, Tree.vc, PE.den, E.den, qK, BO.ev, List.getElem?_cons_zero, List.getElem?_cons_succ, List.cons_append, List.nil_append, Option.some.injEq, D.i.injEq, D.t.injEq, exists_eq_left', exists_const, forall_const, forall_eq', qY, qX, qo, zero_eq, min_i64, max_i64, min_u8, max_u8, and_true, true_and, Decidable.not_not, zH, qgy, qgw, P35, P36]
 intro hl
 have hn := qN s
 refine ⟨hn, LA s v, fun q u h0 h1 hI => ⟨fun h2 => ?_, fun h2 => ?_⟩⟩
 · have hr := vK h0 h2
   have hw := width_le h0 h2
   have hw1 : 1 ≤ yw s q := by omega
   have nx := @EP s v q u hI h0 h2
   have qu := @LC s v q u hI h0 h2
   have fd := @LU s v q u hI h0 h2
   repeat' with_reducible first | omega | apply And.intro | intro _
   all_goals first | (refine qu (by assumption) _) | (refine nx (by assumption) (by omega)) | (refine fd (by assumption)) | (refine nx (by assumption) (fun hh => ?_); grind) | (exfalso; omega)
 · have := qwP hI (by omega)
   repeat' with_reducible first | omega | (exact qwN this) | apply And.intro | intro _
theorem qyS : ∀ ds, Sorts (Iq 68).sorts ds → SG.vc (TI N) ds := by
 refine qx fun s => zk ?_
 set_option linter.unusedSimpArgs false in
 simp (config := { maxSteps := 10000000 }) only [SG, e0, e1, e6, e34, p36, p49, q50, p51, p52, e53, q54, p55, p56, e57, e58, e59, e60, e61, e62, e63, q64, e65, ν, κ, ο, γ, ω, ρ, χ, π, δ, ξ, υ, α, μ, β, η, τ, sln, fn1, fn2, z0, Tree.vc, PE.den, E.den, qK, BO.ev, List.getElem?_cons_zero, List.getElem?_cons_succ, List.cons_append, List.nil_append, Option.some.injEq, D.i.injEq, D.t.injEq, exists_eq_left', exists_const, forall_const, forall_eq', qY, qX, qo, zero_eq, min_i64, max_i64, min_u8, max_u8, and_true, true_and, Decidable.not_not, S9, zH, K6, P15, P16, P22, P35, P37]
 intro hl
 have hn := qN s
 have h00 : ∀ r : Int, 0 ≤ r → r < 0 → qy 0 ≤ 100000 := fun r h1 h2 => by omega
 refine ⟨fun h => ⟨h00, X9 h _ _ (by decide)⟩, fun qvE => ⟨fun h => ?_, fun hne => ⟨by omega, h00, T9 hne, fun r v T n h0 h1 hR hP => ⟨by omega, fun a u ha0 ha1 hI => ⟨fun ha => ?_, fun ha => ?_⟩⟩⟩⟩⟩
 · subst h; exact ⟨h00, Tx⟩
 · have hm : a = -1 := by omega
   subst hm
   have bad : (hpre r (-18) ≠ 0 ∨ ¬ ji (qj r)) → ∀ (T' : Tb) m, yX s T' m 6 := fun h T' m => Cq hP hI (.inr ⟨by omega, rfl⟩) h T' m (by decide)
   have hrn := qN r
   refine ⟨fun hq => ⟨by omega, fun x e hx => ⟨fun _ => bad (.inl hq) _ _, fun _ => ⟨by omega, fun b _ => ⟨fun _ => bad (.inl hq) _ _, fun _ => ⟨by omega, fun h64 => ?_, fun h64 => ?_⟩⟩⟩⟩⟩, fun hq b hb => ⟨fun h => ?_, fun h => ⟨by omega, fun h64 => ?_, fun h64 => ?_⟩⟩⟩
   · exact (eT hP h0 hI (q := 1) (x := x) (fun h => absurd h hq) (fun h => by cases h)).1 h64 _
   · exact ⟨by omega, vW hR (by omega), (eT hP h0 hI (q := 1) (x := x) (fun h => absurd h hq) (fun h => by cases h)).2 h64⟩
   · exact bad (.inr fun hw => (hb rfl).2 hw h) _ _
   · exact (eT hP h0 hI (q := 0) (x := r) (fun _ => ⟨rfl, rfl⟩) (fun _ => ⟨rfl, (hb rfl).1 h⟩)).1 h64 _
   · exact ⟨by omega, vW hR (by omega), (eT hP h0 hI (q := 0) (x := r) (fun _ => ⟨rfl, rfl⟩) (fun _ => ⟨rfl, (hb rfl).1 h⟩)).2 h64⟩
 · have hrn := qN r
   have ha' : 0 ≤ a := by omega
   have hs1 := (yB r 0 a).2
   have hs2 := (yB r (a + 1) (qy r)).1
   have hs3 := qN (jZ r (a + 1) (qy r))
   have har : a < qy r := by
     rcases hI with ⟨h, _⟩ | ⟨_, h, _⟩
     · omega
     · exact h
   have bad : (hpre (jZ r 0 a) (-18) ≠ 0 ∨ ¬ ji (qj (jZ r 0 a))) → ∀ (T' : Tb) m, yX s T' m 6 := fun h T' m => Cq hP hI (.inl ⟨ha', rfl⟩) h T' m (by decide)
   refine ⟨by omega, fun hq => ⟨by omega, fun x e hx => ⟨fun _ => bad (.inl hq) _ _, fun _ => ⟨by omega, fun b _ => ⟨fun _ => bad (.inl hq) _ _, fun _ => ?_⟩⟩⟩⟩, fun hq => ⟨by omega, fun b hb => ⟨fun h => ?_, fun h => ?_⟩⟩⟩
   · have h9 := vW (q := 1) hR (x := x) (by omega)
     have h8 := Ma hP h0 hI ha' (q := 1) (x := x) (fun h => absurd h hq) (fun h => by cases h)
     repeat' with_reducible first | omega | exact h8 | exact h9 | apply And.intro | intro _
   · exact bad (.inr fun hw => (hb rfl).2 hw h) _ _
   · have h9 := vW (q := 0) hR (x := jZ r 0 a) (by omega)
     have h8 := Ma hP h0 hI ha' (q := 0) (x := jZ r 0 a) (fun _ => ⟨rfl, rfl⟩) (fun _ => ⟨rfl, (hb rfl).1 h⟩)
     repeat' with_reducible first | omega | exact h8 | exact h9 | apply And.intro | intro _
end Go.Tt
namespace Go.Tt
open Go Go.Sx Go.Lib Go.Sf
variable {N : Nat}
theorem qgl : ∀ ds, Sorts RA.sorts ds → qz3.vc (TI N) ds := by
 refine kU fun T => qx fun lo => qx fun n => qx fun b => qx fun q => zk ?_
 set_option linter.unusedSimpArgs false in
 simp (config := { maxSteps := 10000000 }) only [qz3, e1, e10, e18, e23, e38, p66, q67, p68, p69, p70, e71, ν, κ, ο, γ, ω, ρ, χ, π, δ, ξ, υ, α, μ, β, η, τ, sln, fn1, fn2, z0, Tree.vc, PE.den, E.den, qK, BO.ev, List.getElem?_cons_zero, List.getElem?_cons_succ, List.cons_append, List.nil_append, Option.some.injEq, D.i.injEq, D.t.injEq, exists_eq_left', exists_const, forall_const, forall_eq', qY, qX, qo, zero_eq, min_i64, max_i64, min_u8, max_u8, and_true, true_and, Decidable.not_not, zH, P22, P33]
 intro h0 h1 h2 hR
 have h00 : qy 0 ≤ 100000 := by rw [vH]; omega
 refine ⟨fun h => ⟨h00, .inr ⟨by omega, rfl, rfl, rfl, rfl⟩⟩, fun h => ⟨by omega, by omega, fun h3 => ⟨h00, .inr ⟨by omega, rfl, rfl, rfl, rfl⟩⟩, fun h3 => ?_⟩⟩
 exact ⟨by omega, by omega, by omega, by omega, by omega, hR lo h0 (by omega), .inl ⟨by omega, h3, rfl, rfl, rfl, rfl⟩⟩
theorem qgs : ∀ ds, Sorts Ik.sorts ds → qz0.vc (TI N) ds := by
 refine kU fun T => qx fun lo => qx fun n => qx fun b => qx fun q => zk ?_
 set_option linter.unusedSimpArgs false in
 simp (config := { maxSteps := 10000000 }) only [qz0, e1, e10, e23, e57, p72, p73, p74, ν, κ, ο, γ, ω, ρ, χ, π, δ, ξ, υ, α, μ, β, η, τ, sln, fn1, fn2, z0, Tree.vc, PE.den, E.den, qK, BO.ev, List.getElem?_cons_zero, List.getElem?_cons_succ, List.cons_append, List.nil_append, Option.some.injEq, D.i.injEq, D.t.injEq, exists_eq_left', exists_const, forall_const, forall_eq', qY, qX, qo, zero_eq, min_i64, max_i64, min_u8, max_u8, and_true, true_and, Decidable.not_not, zH, P10, P22, P33, P38]
 intro h0 h1 h2 hR s lo' n' b' g0 g1 g2 g3 hF x e hx hI
 refine ⟨fun hb => ⟨s, b', e, hF, hI, by rw [if_pos (.inl hb)]⟩, fun hb => ⟨s, b', e, hF, hI, ?_⟩⟩
 by_cases he : e = 0
 · simp [he, hb]
 · simp [he]
theorem BX {s : Int} {T : Tb} {n e i : Int} (hS : yX s T n e) (h0 : 0 ≤ i) (h1 : i < n) (hq : ¬ T i 0 = 0) : Ia s (fun _ _ => 0) 0 0 := by
 refine ⟨fun h => absurd rfl h, fun _ ws hB hl hs hj => ?_⟩
 obtain ⟨_, _, hr⟩ := hS.1 ws hB hl hs hj
 obtain ⟨I, rfl⟩ := Int.eq_ofNat_of_zero_le h0
 exact hq (hr I h1).1
theorem Sm {T U : Tb} {i m : Int} (h : F3 T i U m) (h0 : 0 ≤ i) (hq : T i 0 = 0) : F3 T (i + 1) (qg U m 0 (T i 1)) (m + 1) := by
 obtain ⟨rfl, h2⟩ := h
 refine ⟨rfl, fun r hr => ?_⟩
 unfold qg
 by_cases hri : (r : Int) = m
 · rw [if_pos ⟨hri, rfl⟩, hri]; exact ⟨hq, rfl⟩
 · rw [if_neg (fun hh => hri hh.1)]
   exact h2 r (by omega)
theorem Sd {T U : Tb} {i m n : Int} (h : F3 T i U m) (hn : i ≤ n) (hR : ∀ r : Int, 0 ≤ r → r < n → qy (T r 1) ≤ 100000) : ∀ r : Int, 0 ≤ r → r < m → qy (U r 0) ≤ 100000 := by
 obtain ⟨rfl, h2⟩ := h
 intro r h0 h1
 obtain ⟨R, rfl⟩ := Int.eq_ofNat_of_zero_le h0
 rw [(h2 R h1).2]
 exact hR R h0 (by omega)
theorem IB {s : Int} {T U : Tb} {i m n e : Int} (hS : yX s T n e) (h : F3 T i U m) (hn : i ≤ n) (h1 : ¬ i < n) : Ia s U m (if e = 0 then 1 else 0) := by
 obtain ⟨rfl, h2⟩ := h
 obtain rfl : m = n := by omega
 by_cases he : e = 0
 · rw [if_pos he]
   refine ⟨fun _ => ?_, fun h => by cases h⟩
   obtain ⟨ws, g1, g2, g3, g4, g5⟩ := hS.2 he fun r hr => (h2 r hr).1
   refine ⟨ws, g1, g2, g4, g3, fun r w hw => ?_⟩
   have hr : (r : Int) < m := by
     have := (List.getElem?_eq_some_iff.1 hw).1
     omega
   rw [(h2 r hr).2]
   exact (g5 r hr).2 w hw
 · rw [if_neg he]
   exact ⟨fun h => absurd rfl h, fun _ ws hB hl hs hj => he (hS.1 ws hB hl hs hj).1⟩
theorem qgf : ∀ ds, Sorts U8.sorts ds → qzL.vc (TI N) ds := by
 refine qx fun s => zk ?_
 set_option linter.unusedSimpArgs false in
 simp (config := { maxSteps := 10000000 }) only [qzL, e0, e1, e6, e23, e43, p51, e58, p72, AO, JN, e350, Ak, ν, κ, ο, γ, ω, ρ, χ, π, δ, ξ, υ, α, μ, β, η, τ, sln, fn1, fn2, z0, Tree.vc, PE.den, E.den, qK, BO.ev, List.getElem?_cons_zero, List.getElem?_cons_succ, List.cons_append, List.nil_append, Option.some.injEq, D.i.injEq, D.t.injEq, exists_eq_left', exists_const, forall_const, forall_eq', qY, qX, qo, zero_eq, min_i64, max_i64, min_u8, max_u8, and_true, true_and, Decidable.not_not, zH, P16, P22, P23, P55, P56]
 intro hs T n e h0 h64 hR hS
 have hw0 : F3 T 0 (fun _ _ => 0) 0 := ⟨rfl, fun r hr => by omega⟩
 have h00 : ∀ r : Int, 0 ≤ r → r < 0 → qy 0 ≤ 100000 := fun r h1 h2 => by omega
 refine ⟨hw0, fun i U m h1 h2 h3 hW => ⟨fun h4 => ⟨fun h5 => ⟨h00, BX hS h1 h4 h5⟩, fun h5 => ?_⟩, fun h4 => ?_⟩⟩
 · have := Sm hW h1 h5
   have := hW.1
   repeat' with_reducible first | omega | assumption | apply And.intro | intro _
 · exact ⟨Sd hW h2 hR, IB hS hW h2 h4⟩
theorem mD : ∀ ds, Sorts dV.sorts ds → dU.vc (TI N) ds := by
 refine qx fun s => zk ?_
 set_option linter.unusedSimpArgs false in
 simp (config := { maxSteps := 10000000 }) only [dU, e0, e1, e23, e43, p55, e57, p66, p70, p72, e83, e84, e126, e127, e128, e129, e130, e131, e132, e142, AO, TH, aC, yM, dw, l9, Zz, bF, e242, dz, e244, su, sw, CP, vC, xX, vT, vS, sj, JO, l8, aT, aS, VG, e258, e259, aR, JI, JU, AU, AL, e265, aP, JL, JC, JR, DF, e271, e272, AP, e274, iR, Zq, e277, e278, e279, e280, Rj, e282, e283, qkR, qkP, qkN, qkM, DX, CF, e290, e291, qkH, AB, qkv, ν, κ, ο, γ, ω, ρ, χ, π, δ, ξ, υ, α, μ, β, η, τ, sln, fn1, fn2, z0, Tree.vc, PE.den, E.den, qK, BO.ev, List.getElem?_cons_zero, List.getElem?_cons_succ, List.cons_append, List.nil_append, Option.some.injEq, D.i.injEq, D.t.injEq, exists_eq_left', exists_const, forall_const, forall_eq', qY, qX, qo, zero_eq, min_i64, max_i64, min_u8, max_u8, and_true, true_and, Decidable.not_not, zH, P16, P22, P33, P34, P38]
 intro hs T n e h0 h64 hR hS
 have h00 : qy 0 ≤ 100000 := by rw [vH]; omega
 refine ⟨fun h => ⟨h00, nZ fun t h1 h2 h3 => h (WU hS h1 h2 h3).1⟩, fun h => ⟨by omega, fun v lo' n' b' g0 g1 g2 g3 hF => ⟨fun hv => ?_, fun hv => ?_⟩⟩⟩
 · subst hv
   repeat' with_reducible first | (exfalso; omega) | apply And.intro | intro _
   all_goals first | exact h00 | exact Vb (h ▸ hS) hF qwQ
 · subst h
   refine ⟨fun hv => ?_, fun hv1 => ?_⟩
   · have rd := jX hS hF
     rw [show qj v = kw.getD 1 [] from by rw [← hv]; rfl] at rd
     intro a l0 m0 b0 _ _ _ _ hF0
     have rd := kW 1 (by decide) hS rd hF0 rfl (show (1 : Nat) < 5 by decide)
     intro x p0 q0 r0 hx _ _ _ hN0
     have rd := kS 1 0 (by decide) hS rd hN0 rfl rfl (by decide)
     intro y p1 q1 r1 hy _ _ _ hN1
     have rd := kS 1 1 (by decide) hS rd hN1 rfl rfl (by decide)
     intro z p2 q2 r2 hz _ _ _ hN2
     have rd := kS 1 2 (by decide) hS rd hN2 rfl rfl (by decide)
     exact mH (k := 1) (a := a) (b := 0) (x := x) (y := y) (z := z) ⟨hS, by decide, by decide, rfl, rfl, rfl, kT 1 rfl (by decide) (fun h => absurd h (by decide)) (fun _ => rfl) ⟨hx, fun h => absurd h (by decide)⟩ ⟨hy, fun h => absurd h (by decide)⟩ ⟨hz, fun h => absurd h (by decide)⟩⟩ rd
   refine ⟨fun hv => ?_, fun hv2 => ?_⟩
   · have rd := jX hS hF
     rw [show qj v = kw.getD 2 [] from by rw [← hv]; rfl] at rd
     intro a l0 m0 b0 _ _ _ _ hF0
     have rd := kW 2 (by decide) hS rd hF0 rfl (show (1 : Nat) < 2 by decide)
     exact mH (k := 2) (a := a) (b := 0) (x := 0) (y := 0) (z := 0) ⟨hS, by decide, by decide, rfl, rfl, rfl, kT 2 rfl (by decide) (fun h => absurd h (by decide)) (fun _ => rfl) ⟨jI, fun _ => rfl⟩ ⟨jI, fun _ => rfl⟩ ⟨jI, fun _ => rfl⟩⟩ rd
   refine ⟨fun hv => ?_, fun hv3 => ?_⟩
   · have rd := jX hS hF
     rw [show qj v = kw.getD 3 [] from by rw [← hv]; rfl] at rd
     intro a l0 m0 b0 _ _ _ _ hF0
     have rd := kW 3 (by decide) hS rd hF0 rfl (show (1 : Nat) < 5 by decide)
     intro b l1 m1 b1 _ _ _ _ hF1
     have rd := kW 3 (by decide) hS rd hF1 rfl (show (2 : Nat) < 5 by decide)
     intro x p0 q0 r0 hx _ _ _ hN0
     have rd := kS 3 0 (by decide) hS rd hN0 rfl rfl (by decide)
     intro y p1 q1 r1 hy _ _ _ hN1
     have rd := kS 3 1 (by decide) hS rd hN1 rfl rfl (by decide)
     exact Qr (k := 3) (a := a) (b := b) (x := x) (y := y) (z := 0) ⟨hS, by decide, by decide, rfl, rfl, rfl, kT 3 rfl (by decide) (fun h => absurd h (by decide)) (fun h => absurd h (by decide)) ⟨hx, fun h => absurd h (by decide)⟩ ⟨hy, fun h => absurd h (by decide)⟩ ⟨jI, fun _ => rfl⟩⟩ rd
   refine ⟨fun hv => ?_, fun hv4 => ?_⟩
   · have rd := jX hS hF
     rw [show qj v = kw.getD 4 [] from by rw [← hv]; rfl] at rd
     intro a l0 m0 b0 _ _ _ _ hF0
     have rd := kW 4 (by decide) hS rd hF0 rfl (show (1 : Nat) < 3 by decide)
     intro b l1 m1 b1 _ _ _ _ hF1
     have rd := kW 4 (by decide) hS rd hF1 rfl (show (2 : Nat) < 3 by decide)
     exact Qr (k := 4) (a := a) (b := b) (x := 0) (y := 0) (z := 0) ⟨hS, by decide, by decide, rfl, rfl, rfl, kT 4 rfl (by decide) (fun h => absurd h (by decide)) (fun h => absurd h (by decide)) ⟨jI, fun _ => rfl⟩ ⟨jI, fun _ => rfl⟩ ⟨jI, fun _ => rfl⟩⟩ rd
   refine ⟨fun hv => ?_, fun hv5 => ?_⟩
   · have rd := jX hS hF
     rw [show qj v = kw.getD 5 [] from by rw [← hv]; rfl] at rd
     intro a l0 m0 b0 _ _ _ _ hF0
     have rd := kW 5 (by decide) hS rd hF0 rfl (show (1 : Nat) < 3 by decide)
     intro b l1 m1 b1 _ _ _ _ hF1
     have rd := kW 5 (by decide) hS rd hF1 rfl (show (2 : Nat) < 3 by decide)
     exact Qr (k := 5) (a := a) (b := b) (x := 0) (y := 0) (z := 0) ⟨hS, by decide, by decide, rfl, rfl, rfl, kT 5 rfl (by decide) (fun h => absurd h (by decide)) (fun h => absurd h (by decide)) ⟨jI, fun _ => rfl⟩ ⟨jI, fun _ => rfl⟩ ⟨jI, fun _ => rfl⟩⟩ rd
   refine ⟨fun hv => ?_, fun hv6 => ?_⟩
   · have rd := jX hS hF
     rw [show qj v = kw.getD 6 [] from by rw [← hv]; rfl] at rd
     intro a l0 m0 b0 _ _ _ _ hF0
     have rd := kW 6 (by decide) hS rd hF0 rfl (show (1 : Nat) < 2 by decide)
     exact mH (k := 6) (a := a) (b := 0) (x := 0) (y := 0) (z := 0) ⟨hS, by decide, by decide, rfl, rfl, rfl, kT 6 rfl (by decide) (fun h => absurd h (by decide)) (fun _ => rfl) ⟨jI, fun _ => rfl⟩ ⟨jI, fun _ => rfl⟩ ⟨jI, fun _ => rfl⟩⟩ rd
   refine ⟨fun hv => ?_, fun hv7 => ?_⟩
   · have rd := jX hS hF
     rw [show qj v = kw.getD 7 [] from by rw [← hv]; rfl] at rd
     intro a l0 m0 b0 _ _ _ _ hF0
     have rd := kW 7 (by decide) hS rd hF0 rfl (show (1 : Nat) < 4 by decide)
     intro b l1 m1 b1 _ _ _ _ hF1
     have rd := kW 7 (by decide) hS rd hF1 rfl (show (2 : Nat) < 4 by decide)
     intro x p0 q0 r0 hx _ _ _ hN0
     have rd := kS 7 0 (by decide) hS rd hN0 rfl rfl (by decide)
     exact Qr (k := 7) (a := a) (b := b) (x := x) (y := 0) (z := 0) ⟨hS, by decide, by decide, rfl, rfl, rfl, kT 7 rfl (by decide) (fun h => absurd h (by decide)) (fun h => absurd h (by decide)) ⟨hx, fun h => absurd h (by decide)⟩ ⟨jI, fun _ => rfl⟩ ⟨jI, fun _ => rfl⟩⟩ rd
   refine ⟨fun hv => ?_, fun hv8 => ?_⟩
   · have rd := jX hS hF
     rw [show qj v = kw.getD 8 [] from by rw [← hv]; rfl] at rd
     intro a l0 m0 b0 _ _ _ _ hF0
     have rd := kW 8 (by decide) hS rd hF0 rfl (show (1 : Nat) < 5 by decide)
     intro b l1 m1 b1 _ _ _ _ hF1
     have rd := kW 8 (by decide) hS rd hF1 rfl (show (2 : Nat) < 5 by decide)
     intro x p0 q0 r0 hx _ _ _ hN0
     have rd := kS 8 0 (by decide) hS rd hN0 rfl rfl (by decide)
     intro y p1 q1 r1 hy _ _ _ hN1
     have rd := kS 8 1 (by decide) hS rd hN1 rfl rfl (by decide)
     exact Qr (k := 8) (a := a) (b := b) (x := x) (y := y) (z := 0) ⟨hS, by decide, by decide, rfl, rfl, rfl, kT 8 rfl (by decide) (fun h => absurd h (by decide)) (fun h => absurd h (by decide)) ⟨hx, fun h => absurd h (by decide)⟩ ⟨hy, fun h => absurd h (by decide)⟩ ⟨jI, fun _ => rfl⟩⟩ rd
   refine ⟨fun hv => ?_, fun hv9 => ?_⟩
   · have rd := jX hS hF
     rw [show qj v = kw.getD 9 [] from by rw [← hv]; rfl] at rd
     intro x p0 q0 r0 hx _ _ _ hN0
     have rd := kS 9 0 (by decide) hS rd hN0 rfl rfl (by decide)
     exact mH (k := 9) (a := 0) (b := 0) (x := x) (y := 0) (z := 0) ⟨hS, by decide, by decide, rfl, rfl, rfl, kT 9 rfl (by decide) (fun _ => rfl) (fun _ => rfl) ⟨hx, fun h => absurd h (by decide)⟩ ⟨jI, fun _ => rfl⟩ ⟨jI, fun _ => rfl⟩⟩ rd
   refine ⟨fun hv => ?_, fun qbn => ?_⟩
   · have rd := jX hS hF
     rw [show qj v = kw.getD 10 [] from by rw [← hv]; rfl] at rd
     exact mH (k := 10) (a := 0) (b := 0) (x := 0) (y := 0) (z := 0) ⟨hS, by decide, by decide, rfl, rfl, rfl, kT 10 rfl (by decide) (fun _ => rfl) (fun _ => rfl) ⟨jI, fun _ => rfl⟩ ⟨jI, fun _ => rfl⟩ ⟨jI, fun _ => rfl⟩⟩ rd
   refine ⟨fun hv => ?_, fun qbm => ?_⟩
   · have rd := jX hS hF
     rw [show qj v = kw.getD 11 [] from by rw [← hv]; rfl] at rd
     intro x p0 q0 r0 hx _ _ _ hN0
     have rd := kS 11 0 (by decide) hS rd hN0 rfl rfl (by decide)
     exact mH (k := 11) (a := 0) (b := 0) (x := x) (y := 0) (z := 0) ⟨hS, by decide, by decide, rfl, rfl, rfl, kT 11 rfl (by decide) (fun _ => rfl) (fun _ => rfl) ⟨hx, fun h => absurd h (by decide)⟩ ⟨jI, fun _ => rfl⟩ ⟨jI, fun _ => rfl⟩⟩ rd
   refine ⟨fun hv => ?_, fun qbh => ?_⟩
   · have rd := jX hS hF
     rw [show qj v = kw.getD 12 [] from by rw [← hv]; rfl] at rd
     intro x p0 q0 r0 hx _ _ _ hN0
     have rd := kS 12 0 (by decide) hS rd hN0 rfl rfl (by decide)
     intro y p1 q1 r1 hy _ _ _ hN1
     have rd := kS 12 1 (by decide) hS rd hN1 rfl rfl (by decide)
     intro z p2 q2 r2 hz _ _ _ hN2
     have rd := kS 12 2 (by decide) hS rd hN2 rfl rfl (by decide)
     exact mH (k := 12) (a := 0) (b := 0) (x := x) (y := y) (z := z) ⟨hS, by decide, by decide, rfl, rfl, rfl, kT 12 rfl (by decide) (fun _ => rfl) (fun _ => rfl) ⟨hx, fun h => absurd h (by decide)⟩ ⟨hy, fun h => absurd h (by decide)⟩ ⟨hz, fun h => absurd h (by decide)⟩⟩ rd
   refine ⟨fun hv => ?_, fun qbf => ?_⟩
   · have rd := jX hS hF
     rw [show qj v = kw.getD 13 [] from by rw [← hv]; rfl] at rd
     intro a l0 m0 b0 _ _ _ _ hF0
     have rd := kW 13 (by decide) hS rd hF0 rfl (show (1 : Nat) < 2 by decide)
     exact mH (k := 13) (a := a) (b := 0) (x := 0) (y := 0) (z := 0) ⟨hS, by decide, by decide, rfl, rfl, rfl, kT 13 rfl (by decide) (fun h => absurd h (by decide)) (fun _ => rfl) ⟨jI, fun _ => rfl⟩ ⟨jI, fun _ => rfl⟩ ⟨jI, fun _ => rfl⟩⟩ rd
   exact ⟨h00, Vb hS hF (qzx ⟨⟨hv1, hv2, hv3, hv4, hv5, hv6, hv7⟩, hv8, hv9, qbn, qbm, qbh, qbf⟩)⟩
end Go.Tt
