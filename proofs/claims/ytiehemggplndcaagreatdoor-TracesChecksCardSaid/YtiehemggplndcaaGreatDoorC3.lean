/-
  The formulas of the contracts hold: the errors of steps. Conditions: none; nothing here speaks of a program.
-/
import Derived.Test.YtiehemggplndcaaGreatDoorC2
import Derived.Test.YtiehemggplndcaaGreatDoorC5
namespace Go.Tt
open Go Go.Sx Go.Lib Go.Sf
variable {N : Nat}
theorem qgm : ∀ ds, Sorts FM.sorts ds → qzI.vc (TI N) ds := by
 refine zk ?_
 set_option linter.unusedSimpArgs false in
 simp (config := { maxSteps := 10000000 }) only [qzI, e126, e127, e128, e129, e130, e131, e132, ν, κ, ο, γ, ω, ρ, χ, π, δ, ξ, υ, α, μ, β, η, τ, sln, fn1, fn2, z0, Tree.vc, PE.den, E.den, qK, BO.ev, List.getElem?_cons_zero, List.getElem?_cons_succ, List.cons_append, List.nil_append, Option.some.injEq, D.i.injEq, D.t.injEq, exists_eq_left', exists_const, forall_const, forall_eq', qY, qX, qo, zero_eq, min_i64, max_i64, min_u8, max_u8, and_true, true_and, Decidable.not_not, P80]
 intro k h1 h2
 have : k = 1 ∨ k = 2 ∨ k = 3 ∨ k = 4 ∨ k = 5 ∨ k = 6 ∨ k = 7 ∨ k = 8 ∨ k = 9 ∨ k = 10 ∨ k = 11 ∨ k = 12 ∨ k = 13 := by omega
 rw [kc h1 h2]
 rcases this with rfl | rfl | rfl | rfl | rfl | rfl | rfl | rfl | rfl | rfl | rfl | rfl | rfl <;> refine ⟨?_, ?_, ?_, ?_⟩ <;> decide
theorem Kl {a : Int} : jN a = 0 ↔ ¬ xM (qj a) := by
 unfold jN
 by_cases h : xM (qj a)
 · rw [if_pos h]; exact ⟨(fun h => by cases h), fun h2 => absurd h h2⟩
 · rw [if_neg h]; exact ⟨fun _ => h, fun _ => rfl⟩
section
variable {k : Int} {A B C : Nat}
def C1 (k w n : Int) : Prop := k < 1 ∨ 13 < k ∨ w < 0 ∨ 2 < w ∨ (w = 0 ∧ n ≠ 0)
def C2 (A B C : Nat) (a m x y z : Int) : Prop := (A = 0 ∧ a ≠ 0) ∨ (B = 0 ∧ m ≠ 0) ∨ (C < 1 ∧ x ≠ 0) ∨ (C < 2 ∧ y ≠ 0) ∨ (C < 3 ∧ z ≠ 0)
def C3 (A B : Nat) (a m : Int) : Prop := (A ≠ 0 ∧ jN a = 0) ∨ (B ≠ 0 ∧ jN m = 0)
def C4 (x y z w n : Int) : Prop := (x < -1000000000000 ∨ 1000000000000 < x) ∨ (y < -1000000000000 ∨ 1000000000000 < y) ∨ (z < -1000000000000 ∨ 1000000000000 < z) ∨ (w = 1 ∧ (n < -1000000000000 ∨ 1000000000000 < n)) ∨ (w = 2 ∧ (n < 1 ∨ 999 < n))
theorem dI (hA : kar k.toNat = A) (hB : knm k.toNat = B) (hC : qW k.toNat = C) (a m x y z w n : Int) :
   ((C1 k w n ∨ C2 A B C a m x y z) → wM k (qj a) (qj m) x y z w n = 2) ∧ (¬ C1 k w n → ¬ C2 A B C a m x y z → (C3 A B a m → wM k (qj a) (qj m) x y z w n = 6) ∧ (¬ C3 A B a m → (C4 x y z w n → wM k (qj a) (qj m) x y z w n = 7) ∧ (¬ C4 x y z w n → wM k (qj a) (qj m) x y z w n = 0))) := by
 subst hA; subst hB; subst hC
 unfold wM
 have h2 : ((kar k.toNat = 0 ∧ qj a ≠ []) ∨ (knm k.toNat = 0 ∧ qj m ≠ []) ∨ (qW k.toNat < 1 ∧ x ≠ 0) ∨ (qW k.toNat < 2 ∧ y ≠ 0) ∨ (qW k.toNat < 3 ∧ z ≠ 0)) ↔ C2 (kar k.toNat) (knm k.toNat) (qW k.toNat) a m x y z := by
   unfold C2; rw [gF, gF]
 have h3 : ((kar k.toNat ≠ 0 ∧ ¬ xM (qj a)) ∨ (knm k.toNat ≠ 0 ∧ ¬ xM (qj m))) ↔ C3 (kar k.toNat) (knm k.toNat) a m := by
   unfold C3; rw [Kl, Kl]
 have h4 : (Big x ∨ Big y ∨ Big z ∨ (w = 1 ∧ Big n) ∨ (w = 2 ∧ (n < 1 ∨ 999 < n))) ↔ C4 x y z w n := Iff.rfl
 have h1 : (k < 1 ∨ 13 < k ∨ w < 0 ∨ 2 < w ∨ (w = 0 ∧ n ≠ 0)) ↔ C1 k w n := Iff.rfl
 refine ⟨fun h => ?_, fun g1 g2 => ⟨fun g3 => ?_, fun g3 => ⟨fun g4 => ?_, fun g4 => ?_⟩⟩⟩
 · by_cases hh : C1 k w n
   · rw [if_pos (h1.2 hh)]
   · rw [if_neg (fun e => hh (h1.1 e)), if_pos (h2.2 (h.resolve_left hh))]
 · rw [if_neg (fun e => g1 (h1.1 e)), if_neg (fun e => g2 (h2.1 e)), if_pos (h3.2 g3)]
 · rw [if_neg (fun e => g1 (h1.1 e)), if_neg (fun e => g2 (h2.1 e)), if_neg (fun e => g3 (h3.1 e)), if_pos (h4.2 g4)]
 · rw [if_neg (fun e => g1 (h1.1 e)), if_neg (fun e => g2 (h2.1 e)), if_neg (fun e => g3 (h3.1 e)), if_neg (fun e => g4 (h4.1 e))]
theorem sE2 (hA : kar k.toNat = A) (hB : knm k.toNat = B) (hC : qW k.toNat = C) (a m x y z w n : Int) (h : (k < 1 ∨ 13 < k ∨ w < 0 ∨ 2 < w ∨ (w = 0 ∧ n ≠ 0)) ∨ (A = 0 ∧ a ≠ 0) ∨ (B = 0 ∧ m ≠ 0) ∨ (C < 1 ∧ x ≠ 0) ∨ (C < 2 ∧ y ≠ 0) ∨ (C < 3 ∧ z ≠ 0)) : wE k a m x y z w n 2 :=
 ((dI hA hB hC a m x y z w n).1 h).symm
end
theorem Ic {T : Tb} {lo i n : Int} (h : qyi T lo i) (hn : ¬ i < n) : Sz T lo n 0 := by
 refine ⟨fun h => absurd rfl h, fun ⟨j, h1, h2, h3⟩ => absurd (h j h1 (by omega)) h3⟩
theorem Ip {T : Tb} {lo i n : Int} (h : qyu T lo i) (hn : ¬ i < n) : Sq T lo n 0 := by
 refine ⟨fun h => absurd rfl h, fun ⟨j, h1, h2, h3⟩ => absurd h3 (h j h1 (by omega))⟩
theorem Vw {k a m x y z w n : Int} {A B C : Nat} (hA : kar k.toNat = A) (hB : knm k.toNat = B) (hC : qW k.toNat = C) (hk1 : 1 ≤ k) (hk2 : k ≤ 13) (hw : 0 ≤ w) (hw2 : w ≤ 2) (hn : w = 0 → n = 0) :
   ∃ P Q : Prop, (∀ b : Int, Sz (T3 x y z) (C : Int) (3 - C) b → (b = 0 ↔ ¬ P)) ∧ (∀ b : Int, Sq (T3 x y z) 0 3 b → (b = 0 ↔ ¬ Q)) ∧
   ((((A : Int) = 0 ∧ ¬ a = 0) ∨ ((B : Int) = 0 ∧ ¬ m = 0) ∨ P → wE k a m x y z w n 2) ∧
   (((A : Int) = 0 → a = 0) → ((B : Int) = 0 → m = 0) → ¬ P → ((¬ (A : Int) = 0 ∧ jN a = 0) ∨ (¬ (B : Int) = 0 ∧ jN m = 0) → wE k a m x y z w n 6) ∧
     (((A : Int) = 0 ∨ ¬ jN a = 0) → ((B : Int) = 0 ∨ ¬ jN m = 0) → (Q ∨ (w = 1 ∧ (n < -1000000000000 ∨ 1000000000000 < n)) ∨ (w = 2 ∧ (n < 1 ∨ 999 < n)) → wE k a m x y z w n 7) ∧
       (¬ Q → (w = 1 → ¬ n < -1000000000000 ∧ ¬ 1000000000000 < n) → (w = 2 → ¬ n < 1 ∧ ¬ 999 < n) → wE k a m x y z w n 0)))) := by
 have hc : C ≤ 3 := by rw [← hC]; exact yE _
 have hE := dI hA hB hC a m x y z w n
 have g1 : ¬ C1 k w n := by unfold C1; omega
 refine ⟨((C < 1 ∧ x ≠ 0) ∨ (C < 2 ∧ y ≠ 0) ∨ (C < 3 ∧ z ≠ 0)), (Big x ∨ Big y ∨ Big z), fun b h => ?_, fun b h => ?_, fun h => ?_, fun ha hm hp => ⟨fun h => ?_, fun ha' hm' => ⟨fun h => ?_, fun hq h1 h2 => ?_⟩⟩⟩
 · have := qbO h (by omega)
   constructor
   · rintro rfl h2
     exact this.2 (by omega) rfl
   · intro h2
     exact Classical.byContradiction fun hb => h2 (by have := this.1 hb; omega)
 · have := qbI h
   constructor
   · rintro rfl h2
     exact this.2 h2 rfl
   · intro h2
     exact Classical.byContradiction fun hb => h2 (this.1 hb)
 · exact (hE.1 (.inr (by unfold C2; omega))).symm
 all_goals
   have g2 : ¬ C2 A B C a m x y z := by unfold C2; omega
 · exact ((hE.2 g1 g2).1 (by unfold C3; omega)).symm
 all_goals
   have g3 : ¬ C3 A B a m := by unfold C3; omega
 · refine (((hE.2 g1 g2).2 g3).1 ?_).symm
   unfold C4
   rcases h with (h | h | h) | h | h
   · exact .inl h
   · exact .inr (.inl h)
   · exact .inr (.inr (.inl h))
   · exact .inr (.inr (.inr (.inl h)))
   · exact .inr (.inr (.inr (.inr h)))
 · refine (((hE.2 g1 g2).2 g3).2 ?_).symm
   unfold C4
   rintro (h | h | h | ⟨h, h3⟩ | ⟨h, h3⟩)
   · exact hq (.inl h)
   · exact hq (.inr (.inl h))
   · exact hq (.inr (.inr h))
   · have := h1 h; omega
   · have := h2 h; omega
set_option maxHeartbeats 8000000 in
theorem qyC : ∀ ds, Sorts Nz.sorts ds → SF.vc (TI N) ds := by
 refine qx fun k => qx fun a => qx fun m => qx fun x => qx fun y => qx fun z => qx fun w => qx fun n => zk ?_
 set_option linter.unusedSimpArgs false in
 simp (config := { maxSteps := 10000000 }) only [SF, e1, e34, p36, e41, e77, e79, e80, p81, q82, e83, e84, e85, e86, e87, e88, e89, e90, e91, e92, e93, e94, p95, e96, p97, p98, e99, nW, e101, e102, Ag, PX, Av, qkT, Va, qkd, qkb, e110, qkS, Ay, qkg, ν, κ, ο, γ, ω, ρ, χ, π, δ, ξ, υ, α, μ, β, η, τ, sln, fn1, fn2, z0, Tree.vc, PE.den, E.den, qK, BO.ev, List.getElem?_cons_zero, List.getElem?_cons_succ, List.cons_append, List.nil_append, Option.some.injEq, D.i.injEq, D.t.injEq, exists_eq_left', exists_const, forall_const, forall_eq', qY, qX, qo, zero_eq, min_i64, max_i64, min_u8, max_u8, and_true, true_and, Decidable.not_not, S20, zH, P31, P81, P82]
 intro hk ha hm hx hy hz hw hn
 have e2 := @sE2 k _ _ _ rfl rfl rfl a m x y z w n
 refine ⟨fun h => e2 (by omega), fun h1 => ⟨fun h => e2 (by omega), fun h2 => ⟨fun h => e2 (by omega), fun h3 => ⟨fun h => e2 (by omega), fun h4 => ⟨fun h5 => ⟨fun h => e2 (by omega), fun h6 => ?_⟩, fun h5 => ?_⟩⟩⟩⟩⟩
 all_goals
   have hk1 : 1 ≤ k := by omega
   have hk2 : k ≤ 13 := by omega
   clear e2
   simp only [M5 hk1 hk2, M4 hk1 hk2, XQ hk1 hk2]
   change _ ∧ _
   obtain ⟨P, Q, hP, hQ, f2, fx⟩ := @Vw k a m x y z w n _ _ _ rfl rfl rfl hk1 hk2 (by omega) (by omega) (by omega)
   have hc := yE k.toNat
   generalize kar k.toNat = A at f2 fx ⊢
   generalize knm k.toNat = B at f2 fx ⊢
   generalize qW k.toNat = C at hP f2 fx hc ⊢
   unfold T3 at hP hQ
   have hk0 : 0 ≤ k := by omega
   have c1 : (0 : Int) ≤ C := by omega
   have c2 : (C : Int) ≤ 3 := by omega
   have c3 : (0 : Int) ≤ 3 - C := by omega
   have c4 : (C : Int) + (3 - C) ≤ 3 := by omega
   have c5 : (3 : Int) - C ≤ 1000 := by omega
   clear hk ha hm hx hy hz hw hn h1 h2 h3 h4 hk1 hk2 hc
   generalize qg (qg (qg (fun _ _ => 0) 0 0 x) 1 0 y) 2 0 z = T at hP hQ ⊢
   generalize wE k a m x y z w n 2 = S2 at *
   generalize wE k a m x y z w n 6 = S6 at *
   generalize wE k a m x y z w n 7 = S7 at *
   generalize wE k a m x y z w n 0 = S0 at *
   repeat' with_reducible first | apply And.intro | intro _
   all_goals
     (try have p1 := hP _ (by assumption))
     (try have q1 := hQ _ (by assumption))
     clear hP hQ
     first | assumption | (clear c1 c2 c3 c4 c5 hk0; grind)
theorem qgQ : ∀ ds, Sorts (G9 54 81).sorts ds → qz9.vc (TI N) ds := by
 refine kU fun T => qx fun m => qx fun lo => qx fun n => zk ?_
 set_option linter.unusedSimpArgs false in
 simp (config := { maxSteps := 10000000 }) only [qz9, p3, e23, p51, e58, e75, q76, ν, κ, ο, γ, ω, ρ, χ, π, δ, ξ, υ, α, μ, β, η, τ, sln, fn1, fn2, z0, Tree.vc, PE.den, E.den, qK, BO.ev, List.getElem?_cons_zero, List.getElem?_cons_succ, List.cons_append, List.nil_append, Option.some.injEq, D.i.injEq, D.t.injEq, exists_eq_left', exists_const, forall_const, forall_eq', qY, qX, qo, zero_eq, min_i64, max_i64, min_u8, max_u8, and_true, true_and, Decidable.not_not, P81, P83]
 intro h0 h1 h2 h3
 refine ⟨fun j g1 g2 => by omega, fun i i0 i1 hI => ⟨fun hi => ⟨by omega, by omega, fun hT => ?_, fun hT => ⟨by omega, by omega, by omega, fun j g1 g2 => ?_, by omega, by omega⟩⟩, fun hi => Ic hI hi⟩⟩
 · rw [if_pos i0]
   exact ⟨fun _ => ⟨lo + i, by omega, by omega, hT⟩, fun _ => by decide⟩
 · by_cases e : j = lo + i
   · rw [e]; exact hT
   · exact hI j g1 (by omega)
theorem qge : ∀ ds, Sorts (G9 55 82).sorts ds → qz8.vc (TI N) ds := by
 refine kU fun T => qx fun m => qx fun lo => qx fun n => zk ?_
 set_option linter.unusedSimpArgs false in
 simp (config := { maxSteps := 10000000 }) only [qz8, p3, e23, p51, e58, e75, q76, e77, q78, e79, ν, κ, ο, γ, ω, ρ, χ, π, δ, ξ, υ, α, μ, β, η, τ, sln, fn1, fn2, z0, Tree.vc, PE.den, E.den, qK, BO.ev, List.getElem?_cons_zero, List.getElem?_cons_succ, List.cons_append, List.nil_append, Option.some.injEq, D.i.injEq, D.t.injEq, exists_eq_left', exists_const, forall_const, forall_eq', qY, qX, qo, zero_eq, min_i64, max_i64, min_u8, max_u8, and_true, true_and, Decidable.not_not, P82, P84]
 intro h0 h1 h2 h3
 refine ⟨fun j g1 g2 => by omega, fun i i0 i1 hI => ⟨fun hi => ⟨by omega, by omega, fun hT => ?_, fun hT => ⟨fun hT2 => ?_, fun hT2 => ⟨by omega, by omega, by omega, fun j g1 g2 => ?_, by omega, by omega⟩⟩⟩, fun hi => Ip hI hi⟩⟩
 · rw [if_pos i0]
   exact ⟨fun _ => ⟨lo + i, by omega, by omega, .inl hT⟩, fun _ => by decide⟩
 · rw [if_pos i0]
   exact ⟨fun _ => ⟨lo + i, by omega, by omega, .inr hT2⟩, fun _ => by decide⟩
 · by_cases e : j = lo + i
   · rw [e]; exact fun h => h.elim hT hT2
   · exact hI j g1 (by omega)
end Go.Tt
namespace Go.Tt
open Go Go.Sx Go.Lib Go.Sf
variable {N : Nat}
theorem KZ : ∀ {ws : List (List UInt8)} {w : List UInt8}, w ∈ ws → w.length ≤ (qI ws).length
 | [], w, h => by cases h
 | v :: l, w, h => by
   rw [zX, List.length_append]
   rcases List.mem_cons.1 h with rfl | h
   · omega
   · have := KZ h
     rw [if_neg (fun e => by subst e; cases h), List.length_cons]
     omega
theorem Hf {k a m x y z w n : Int} (hF : OkF k a m x y z w n) (hx : I64 x) (hy : I64 y) (hz : I64 z) (hn : I64 n) {T : Tb} {c : Int}
   (hT : jh T ([kw.getD k.toNat []] ++ (if a = 0 then [] else [qj a]) ++ (if m = 0 then [] else [qj m]) ++ ([x, y, z].take (qW k.toNat)).map itoa ++ (if w = 1 then [wIs, itoa n] else if w = 2 then [za, itoa n] else [])) c) :
   Short T c (-17) ∧ Jv k a m x y z w n (kG T c (-17)) ∧ qy (kG T c (-17)) ≤ 200 := by
 have hA : (a ≠ 0 ∧ (if a = 0 then [] else [qj a]) = [qj a]) ∨ (a = 0 ∧ (if a = 0 then [] else [qj a]) = []) := by
   by_cases h : a = 0
   · exact .inr ⟨h, if_pos h⟩
   · exact .inl ⟨h, if_neg h⟩
 have hM : (m ≠ 0 ∧ (if m = 0 then [] else [qj m]) = [qj m]) ∨ (m = 0 ∧ (if m = 0 then [] else [qj m]) = []) := by
   by_cases h : m = 0
   · exact .inr ⟨h, if_pos h⟩
   · exact .inl ⟨h, if_neg h⟩
 have hV : (w = 1 ∧ (if w = 1 then [wIs, itoa n] else if w = 2 then [za, itoa n] else []) = [wIs, itoa n]) ∨ (w = 2 ∧ (if w = 1 then [wIs, itoa n] else if w = 2 then [za, itoa n] else []) = [za, itoa n]) ∨ (w ≠ 1 ∧ w ≠ 2 ∧ (if w = 1 then [wIs, itoa n] else if w = 2 then [za, itoa n] else []) = []) := by
   by_cases h : w = 1
   · exact .inl ⟨h, if_pos h⟩
   · by_cases h2 : w = 2
     · exact .inr (.inl ⟨h2, by rw [if_neg h, if_pos h2]⟩)
     · exact .inr (.inr ⟨h, h2, by rw [if_neg h, if_neg h2]⟩)
 have e := El hF hA hM rfl hV hT
 have ew := Sn hF hA hM rfl hV
 have hl := cZ hF hx hy hz hn
 rw [← ew] at hT
 have h8 := Wp (stp k a m x y z w n)
 refine ⟨Qa hT (by omega) fun v hv => Nat.le_trans (KZ hv) (by show (stp k a m x y z w n).line.length ≤ 1000; omega), fun _ => e, ?_⟩
 rw [e, zP]
 omega
theorem kc' {k : Int} (h1 : 1 ≤ k) (h2 : k ≤ 13) : wT k.toNat = qZ (kw.getD k.toNat []) := kcw h1 h2
theorem eIs : (14901 : Int) = qZ wIs := by decide
theorem UU : (-250025947444 : Int) = qZ za := by decide
set_option maxHeartbeats 4000000 in
theorem qgd : ∀ ds, Sorts qqo.sorts ds → qzC.vc (TI N) ds := by
 refine qx fun k => qx fun a => qx fun m => qx fun x => qx fun y => qx fun z => qx fun w => qx fun n => zk ?_
 set_option linter.unusedSimpArgs false in
 simp (config := { maxSteps := 10000000 }) only [qzC, e1, e34, p36, e41, e80, p81, e85, e86, e91, e93, e94, p95, e101, e102, VB, e115, e116, CO, e118, e119, CU, e121, e122, CS, e124, gV, e126, e127, e128, e129, e130, e131, e132, e133, e134, e135, e136, e137, e138, e139, e140, e141, e142, e143, e144, e145, gX, e147, e148, e149, e150, e151, mY, e153, e154, e155, e156, e157, YT, e159, e160, e161, e162, e163, e164, e165, e166, e167, e168, e169, e170, e171, e172, e173, e174, e175, e176, e177, e178, e179, e180, e181, e182, e183, e184, e185, e186, e187, e188, e189, e190, e191, e192, e193, e194, e195, e196, e197, e198, e199, e200, e201, e202, e203, e204, e205, e206, e207, e208, e209, e210, e211, e212, e213, e214, e215, e216, e217, e218, e219, e220, e221, e222, e223, e224, e225, e226, e227, e228, e229, e230, e231, e232, e233, ν, κ, ο, γ, ω, ρ, χ, π, δ, ξ, υ, α, μ, β, η, τ, sln, fn1, fn2, z0, Tree.vc, PE.den, E.den, qK, BO.ev, List.getElem?_cons_zero, List.getElem?_cons_succ, List.cons_append, List.nil_append, Option.some.injEq, D.i.injEq, D.t.injEq, exists_eq_left', exists_const, forall_const, forall_eq', qY, qX, qo, zero_eq, min_i64, max_i64, min_u8, max_u8, and_true, true_and, Decidable.not_not, S3, S5, zH, P30, P32, P43]
 intro hk ha hm hx hy hz hw hn hO
 have hF := okF hO
 have hk1 := hF.k1
 have hk2 := hF.k13
 have hC := yE k.toNat
 simp only [XQ hF.k1 hF.k13, qzc hF.k1 hF.k13, kc' hF.k1 hF.k13, eIs, UU]
 have L : ∀ {T : Tb} {c : Int}, jh T ([kw.getD k.toNat []] ++ (if a = 0 then [] else [qj a]) ++ (if m = 0 then [] else [qj m]) ++ ([x, y, z].take (qW k.toNat)).map itoa ++ (if w = 1 then [wIs, itoa n] else if w = 2 then [za, itoa n] else [])) c →
   Short T c (-17) ∧ Jv k a m x y z w n (kG T c (-17)) ∧ qy (kG T c (-17)) ≤ 200 := fun h => Hf hF hx hy hz hn h
 have ea : a = qZ (qj a) := (zf a).symm
 have em : m = qZ (qj m) := (zf m).symm
 refine ⟨by omega, by omega, ?_⟩
 clear hk ha hm hx hy hz hw hn hO hF hk1 hk2
 generalize qW k.toNat = C at *
 generalize kw.getD k.toNat [] = K at *
 repeat' with_reducible first | refine L ?_ | apply And.intro | intro _
 all_goals first
   | omega
   | (first | rw [if_pos (by assumption : a = 0)] | rw [if_neg (by assumption : ¬ a = 0)]
      first | rw [if_pos (by assumption : m = 0)] | rw [if_neg (by assumption : ¬ m = 0)]
      first | rw [if_pos (by assumption : w = 1)] | rw [if_neg (by assumption : ¬ w = 1)]
      (try first | rw [if_pos (by assumption : w = 2)] | rw [if_neg (by assumption : ¬ w = 2)])
      have : C = 0 ∨ C = 1 ∨ C = 2 ∨ C = 3 := by omega
      rcases this with rfl | rfl | rfl | rfl
      all_goals first
        | (exfalso; omega)
        | (refine ⟨rfl, fun r v hr => ?_⟩
           rcases r with _ | _ | _ | _ | _ | _ | _ | _ | r <;> simp at hr <;> subst hr <;> simp [qg, ← ea, ← em]))
theorem BF {k : Nat} : u1 k = 23 ↔ kar k = 0 := by
 unfold u1; split
 · exact ⟨fun _ => by assumption, fun _ => rfl⟩
 · split <;> exact ⟨fun h => absurd h (by decide), fun h => absurd h (by assumption)⟩
theorem BD {k : Nat} : u2 k = 23 ↔ knm k = 0 := by
 unfold u2; split
 · exact ⟨fun _ => by assumption, fun _ => rfl⟩
 · repeat' split
   all_goals exact ⟨fun h => absurd h (by decide), fun h => absurd h (by assumption)⟩
section
variable {k a m x y z w n u v c : Int}
theorem Dv (hu : u = u1 k.toNat) (hv : v = u2 k.toNat) (hc : c = (qW k.toNat : Nat)) :
   (C2 (kar k.toNat) (knm k.toNat) (qW k.toNat) a m x y z ↔ (u = 23 ∧ ¬ a = 0) ∨ (v = 23 ∧ ¬ m = 0) ∨ (c < 1 ∧ ¬ x = 0) ∨ (c < 2 ∧ ¬ y = 0) ∨ (c < 3 ∧ ¬ z = 0)) ∧
   (C3 (kar k.toNat) (knm k.toNat) a m ↔ (¬ u = 23 ∧ jN a = 0) ∨ (¬ v = 23 ∧ jN m = 0)) := by
 have h1 := @BF k.toNat
 have h2 := @BD k.toNat
 subst hu; subst hv
 unfold C2 C3
 rw [h1, h2, hc]
 constructor
 · omega
 · exact Iff.rfl
theorem sr2 (hu : u = u1 k.toNat) (hv : v = u2 k.toNat) (hc : c = (qW k.toNat : Nat)) (h : (u = 23 ∧ ¬ a = 0) ∨ (v = 23 ∧ ¬ m = 0) ∨ (c < 1 ∧ ¬ x = 0) ∨ (c < 2 ∧ ¬ y = 0) ∨ (c < 3 ∧ ¬ z = 0)) : wE k a m x y z w n 2 :=
 ((dI rfl rfl rfl a m x y z w n).1 (.inr ((Dv hu hv hc).1.2 h))).symm
theorem sr6 (hu : u = u1 k.toNat) (hv : v = u2 k.toNat) (hc : c = (qW k.toNat : Nat)) (h1 : ¬ C1 k w n) (h2 : ¬ ((u = 23 ∧ ¬ a = 0) ∨ (v = 23 ∧ ¬ m = 0) ∨ (c < 1 ∧ ¬ x = 0) ∨ (c < 2 ∧ ¬ y = 0) ∨ (c < 3 ∧ ¬ z = 0)))
   (h3 : (¬ u = 23 ∧ jN a = 0) ∨ (¬ v = 23 ∧ jN m = 0)) : wE k a m x y z w n 6 :=
 (((dI rfl rfl rfl a m x y z w n).2 h1 (fun e => h2 ((Dv hu hv hc).1.1 e))).1 ((Dv (x := x) (y := y) (z := z) hu hv hc).2.2 h3)).symm
theorem sr7 (hu : u = u1 k.toNat) (hv : v = u2 k.toNat) (hc : c = (qW k.toNat : Nat)) (h1 : ¬ C1 k w n) (h2 : ¬ ((u = 23 ∧ ¬ a = 0) ∨ (v = 23 ∧ ¬ m = 0) ∨ (c < 1 ∧ ¬ x = 0) ∨ (c < 2 ∧ ¬ y = 0) ∨ (c < 3 ∧ ¬ z = 0)))
   (h3 : ¬ ((¬ u = 23 ∧ jN a = 0) ∨ (¬ v = 23 ∧ jN m = 0))) (h4 : C4 x y z w n) : wE k a m x y z w n 7 :=
 ((((dI rfl rfl rfl a m x y z w n).2 h1 (fun e => h2 ((Dv hu hv hc).1.1 e))).2 (fun e => h3 ((Dv (x := x) (y := y) (z := z) hu hv hc).2.1 e))).1 h4).symm
theorem sr0 (hu : u = u1 k.toNat) (hv : v = u2 k.toNat) (hc : c = (qW k.toNat : Nat)) (h1 : ¬ C1 k w n) (h2 : ¬ ((u = 23 ∧ ¬ a = 0) ∨ (v = 23 ∧ ¬ m = 0) ∨ (c < 1 ∧ ¬ x = 0) ∨ (c < 2 ∧ ¬ y = 0) ∨ (c < 3 ∧ ¬ z = 0)))
   (h3 : ¬ ((¬ u = 23 ∧ jN a = 0) ∨ (¬ v = 23 ∧ jN m = 0))) (h4 : ¬ C4 x y z w n) : wE k a m x y z w n 0 :=
 ((((dI rfl rfl rfl a m x y z w n).2 h1 (fun e => h2 ((Dv hu hv hc).1.1 e))).2 (fun e => h3 ((Dv (x := x) (y := y) (z := z) hu hv hc).2.1 e))).2 h4).symm
theorem sr1 (h : C1 k w n) : wE k a m x y z w n 2 := ((dI rfl rfl rfl a m x y z w n).1 (.inl h)).symm
end
set_option maxHeartbeats 8000000 in
theorem dP : ∀ ds, Sorts yT.sorts ds → vD.vc (TI N) ds := by
 refine qx fun k => qx fun a => qx fun m => qx fun x => qx fun y => qx fun z => qx fun w => qx fun n => zk ?_
 set_option linter.unusedSimpArgs false in
 simp (config := { maxSteps := 10000000 }) only [vD, e1, e34, p36, e41, e43, e77, e79, e80, p81, q82, e83, e84, e85, e91, e92, nW, e101, e102, Ag, PX, Va, e110, e331, e332, e333, e334, e335, PY, qj4, qj3, qj2, qj1, qj0, qjE, qjA, qjO, qjI, qjU, qjL, qjC, ν, κ, ο, γ, ω, ρ, χ, π, δ, ξ, υ, α, μ, β, η, τ, sln, fn1, fn2, z0, Tree.vc, PE.den, E.den, qK, BO.ev, List.getElem?_cons_zero, List.getElem?_cons_succ, List.cons_append, List.nil_append, Option.some.injEq, D.i.injEq, D.t.injEq, exists_eq_left', exists_const, forall_const, forall_eq', qY, qX, qo, zero_eq, min_i64, max_i64, min_u8, max_u8, and_true, true_and, Decidable.not_not, S20, zH, P31, P80]
 intro hk ha hm hx hy hz hw hn
 clear hk ha hm hx hy hz hw hn
 refine ⟨fun h => sr1 (.inl h), fun h1 f _ => ⟨fun h => sr1 (.inr (.inl (by omega))), fun h2 => ⟨fun h => sr1 (.inr (.inr (.inl h))), fun h3 => ⟨fun h => sr1 (.inr (.inr (.inr (.inl h)))), fun h4 => ?_⟩⟩⟩⟩
 refine ⟨fun h5 => ⟨fun h => sr1 (.inr (.inr (.inr (.inr ⟨h5, h⟩)))), fun h6 f hf => ?_⟩, fun h5 f hf => ?_⟩
 all_goals
   have hC : ¬ C1 k w n := by unfold C1; omega
   have hf := hf k.toNat (by omega) (by omega)
   rw [show ((k.toNat : Nat) : Int) = k by omega] at hf
   obtain ⟨_, hu, hv, hc⟩ := hf
   have hk0 : 0 ≤ k := by omega
   clear h1 h2 h3 h4
   generalize f k 1 = u at hu ⊢
   generalize f k 2 = v at hv ⊢
   generalize f k 3 = c at hc ⊢
   refine ⟨hk0, ?_⟩
   clear hk0
   repeat' with_reducible first | apply And.intro | intro _
   all_goals first
     | exact sr2 hu hv hc (by clear hu hv hc hC; omega)
     | exact sr6 hu hv hc hC (by clear hu hv hc hC; omega) (by clear hu hv hc hC; omega)
     | exact sr7 hu hv hc hC (by clear hu hv hc hC; omega) (by clear hu hv hc hC; omega) (by clear hu hv hc hC; unfold C4; omega)
     | exact sr0 hu hv hc hC (by clear hu hv hc hC; omega) (by clear hu hv hc hC; omega) (by clear hu hv hc hC; unfold C4; omega)
end Go.Tt
namespace Go.Tt
open Go Go.Sx Go.Lib Go.Sf
variable {N : Nat}
theorem lS {L A K L' A' K' n n' : Int} {T T' : Tb} (h : ¬ (L = L' ∧ A = A' ∧ K = K' ∧ n = n' ∧ ∀ r : Nat, (r : Int) < n → ∀ c < 8, T r c = T' r c)) : IQ L A K T n L' A' K' T' n' 0 := ⟨fun h0 => absurd rfl h0, fun h1 => absurd h1 h⟩
theorem lt8 {c : Nat} (h : c < 8) : c = 0 ∨ c = 1 ∨ c = 2 ∨ c = 3 ∨ c = 4 ∨ c = 5 ∨ c = 6 ∨ c = 7 := by omega
theorem qyL : ∀ ds, Sorts Nj.sorts ds → SH.vc (TI N) ds := by
 refine qx fun L => qx fun A => qx fun K => kU fun T => qx fun n => qx fun L' => qx fun A' => qx fun K' => kU fun T' => qx fun n' => zk ?_
 set_option linter.unusedSimpArgs false in
 simp (config := { maxSteps := 10000000 }) only [SH, e6, p51, yM, dw, aH, aF, PZ, e658, e659, e660, e661, e662, e663, e664, e665, e666, OT, ν, κ, ο, γ, ω, ρ, χ, π, δ, ξ, υ, α, μ, β, η, τ, sln, fn1, fn2, z0, Tree.vc, PE.den, E.den, qK, BO.ev, List.getElem?_cons_zero, List.getElem?_cons_succ, List.cons_append, List.nil_append, Option.some.injEq, D.i.injEq, D.t.injEq, exists_eq_left', exists_const, forall_const, forall_eq', qY, qX, qo, zero_eq, min_i64, max_i64, min_u8, max_u8, and_true, true_and, Decidable.not_not, P45, P67, P68]
 intro h0 hb _ _ _ _ h0' hb' _ _ _ _
 refine ⟨fun h => lS fun g => h g.1, fun e1 => ⟨fun h => lS fun g => h g.2.1, fun e2 => ⟨fun h => lS fun g => h g.2.2.1, fun e3 => ⟨fun h => lS fun g => h g.2.2.2.1, fun e4 => ⟨fun r hr => by omega, fun i i0 i1 i2 hI => ⟨fun hi => ⟨by omega, fun h => lS fun g => h ?_, fun h => ⟨by omega, by omega, by omega, by omega, fun r hr c hc => ?_, by omega, by omega⟩⟩, fun hi => ?_⟩⟩⟩⟩⟩⟩
 · have g := g.2.2.2.2 i.toNat (by omega)
   rw [show ((i.toNat : Nat) : Int) = i by omega] at g
   exact ⟨g 0 (by decide), g 1 (by decide), g 2 (by decide), g 3 (by decide), g 4 (by decide), g 5 (by decide), g 6 (by decide), g 7 (by decide), by decide⟩
 · by_cases e : (r : Int) = i
   · rw [e]
     obtain ⟨g0, g1, g2, g3, g4, g5, g6, g7, _⟩ := h
     rcases lt8 hc with rfl | rfl | rfl | rfl | rfl | rfl | rfl | rfl <;> assumption
   · exact hI r (by omega) c hc
 · exact ⟨fun _ => ⟨e1, e2, e3, e4, fun r hr => hI r (by omega)⟩, fun _ => by decide⟩
theorem Gi {T : Tb} {n : Int} : R7 T n 1 := fun h => absurd h (by decide)
theorem qgu : ∀ ds, Sorts qqZ.sorts ds → qz4.vc (TI N) ds := by
 refine qx fun L => qx fun A => qx fun K => kU fun T => qx fun n => zk ?_
 set_option linter.unusedSimpArgs false in
 simp (config := { maxSteps := 10000000 }) only [qz4, p51, e62, aC, e619, e621, e622, YX, YZ, TW, qjc, ν, κ, ο, γ, ω, ρ, χ, π, δ, ξ, υ, α, μ, β, η, τ, sln, fn1, fn2, z0, Tree.vc, PE.den, E.den, qK, BO.ev, List.getElem?_cons_zero, List.getElem?_cons_succ, List.cons_append, List.nil_append, Option.some.injEq, D.i.injEq, D.t.injEq, exists_eq_left', exists_const, forall_const, forall_eq', qY, qX, qo, zero_eq, min_i64, max_i64, min_u8, max_u8, and_true, true_and, Decidable.not_not, zH, P69, P70]
 intro h0 hn
 have key : (n ≤ 60 ∨ 500 < n) → n ≤ 600 → (IX T 0 ∧ ∀ i : Int, 0 ≤ i → i ≤ n → IX T i → (i < n → (100 < qy (T i 1) → R7 T n 1) ∧ (¬100 < qy (T i 1) → (100 < qy (T i 2) → R7 T n 1) ∧ (¬100 < qy (T i 2) → (-9223372036854775808 ≤ i + 1 ∧ i + 1 ≤ 9223372036854775807) ∧ 0 ≤ i + 1 ∧ i + 1 ≤ n ∧ IX T (i + 1) ∧ 0 ≤ n - (i + 1) ∧ n - (i + 1) < n - i))) ∧ (¬i < n → R7 T n 0)) := by
   intro h1 h2
   refine ⟨fun r r0 r1 => by omega, fun i i0 i1 hI => ⟨fun hi => ⟨fun _ => Gi, fun g1 => ⟨fun _ => Gi, fun g2 => ⟨by omega, by omega, by omega, fun r r0 r1 => ?_, by omega, by omega⟩⟩⟩, fun hi _ => ⟨h1, h2, fun r r0 r1 => hI r r0 (by omega)⟩⟩⟩
   by_cases e : r = i
   · subst e; omega
   · exact hI r r0 (by omega)
 exact ⟨fun g1 => ⟨fun _ => Gi, fun g2 => ⟨fun _ => Gi, fun g3 => key (by omega) (by omega)⟩⟩, fun g1 => ⟨fun _ => Gi, fun g3 => key (by omega) (by omega)⟩⟩
set_option maxHeartbeats 8000000 in
theorem qyT : ∀ ds, Sorts Nq.sorts ds → SB.vc (TI N) ds := by
 refine kU fun T => qx fun n => qx fun i => zk ?_
 set_option linter.unusedSimpArgs false in
 simp (config := { maxSteps := 10000000 }) only [SB, e1, e23, e77, e79, e86, e87, e88, e89, e93, aM, e461, e462, e463, e464, e465, e466, e467, e468, mW, e470, e471, Cu, e473, e474, Q8, Q7, e477, P7, P6, e480, Vu, e482, e483, qjW, qjK, O1, qkQ, qjJ, qjZ, qjQ, qke, OE, qje, ν, κ, ο, γ, ω, ρ, χ, π, δ, ξ, υ, α, μ, β, η, τ, sln, fn1, fn2, z0, Tree.vc, PE.den, E.den, qK, BO.ev, List.getElem?_cons_zero, List.getElem?_cons_succ, List.cons_append, List.nil_append, Option.some.injEq, D.i.injEq, D.t.injEq, exists_eq_left', exists_const, forall_const, forall_eq', qY, qX, qo, zero_eq, min_i64, max_i64, min_u8, max_u8, and_true, true_and, Decidable.not_not, S20, zH, P31, P45, P81, P82]
 intro i0 i1 hT
 obtain ⟨⟨hk, hx, hy, hz, hw, hn⟩, ha, hm⟩ : (I64 (T i 0) ∧ I64 (T i 3) ∧ I64 (T i 4) ∧ I64 (T i 5) ∧ I64 (T i 6) ∧ I64 (T i 7)) ∧ qy (T i 1) ≤ 100000 ∧ qy (T i 2) ≤ 100000 := ⟨hT.1 i i0 i1, hT.2 i i0 i1⟩
 generalize T i 0 = k at *
 generalize T i 1 = a at *
 generalize T i 2 = m at *
 generalize T i 3 = x at *
 generalize T i 4 = y at *
 generalize T i 5 = z at *
 generalize T i 6 = w at *
 generalize T i 7 = n' at *
 have hk : -9223372036854775808 ≤ k ∧ k ≤ 9223372036854775807 := hk
 have hw : -9223372036854775808 ≤ w ∧ w ≤ 9223372036854775807 := hw
 have e2 := @sE2 k _ _ _ rfl rfl rfl a m x y z w n'
 refine ⟨fun h => e2 (by omega), fun h1 => ⟨fun h => e2 (by omega), fun h2 => ⟨fun h => e2 (by omega), fun h3 => ⟨fun h => e2 (by omega), fun h4 => ⟨fun h5 => ⟨fun h => e2 (by omega), fun h6 => ?_⟩, fun h5 => ?_⟩⟩⟩⟩⟩
 all_goals
   have hk1 : 1 ≤ k := by omega
   have hk2 : k ≤ 13 := by omega
   clear e2
   simp only [M5 hk1 hk2, M4 hk1 hk2, XQ hk1 hk2]
   change _ ∧ _
   obtain ⟨P, Q, hP, hQ, f2, fx⟩ := @Vw k a m x y z w n' _ _ _ rfl rfl rfl hk1 hk2 (by omega) (by omega) (by omega)
   have hc := yE k.toNat
   generalize kar k.toNat = A at f2 fx ⊢
   generalize knm k.toNat = B at f2 fx ⊢
   generalize qW k.toNat = C at hP f2 fx hc ⊢
   unfold T3 at hP hQ
   have hk0 : 0 ≤ k := by omega
   have c1 : (0 : Int) ≤ C := by omega
   have c2 : (C : Int) ≤ 3 := by omega
   have c3 : (0 : Int) ≤ 3 - C := by omega
   have c4 : (C : Int) + (3 - C) ≤ 3 := by omega
   have c5 : (3 : Int) - C ≤ 1000 := by omega
   clear hk hx hy hz hw hn h1 h2 h3 h4 hk1 hk2 hc i0 i1 hT
   generalize qg (qg (qg (fun _ _ => 0) 0 0 x) 1 0 y) 2 0 z = T at hP hQ ⊢
   generalize wE k a m x y z w n' 2 = S2 at *
   generalize wE k a m x y z w n' 6 = S6 at *
   generalize wE k a m x y z w n' 7 = S7 at *
   generalize wE k a m x y z w n' 0 = S0 at *
   repeat' with_reducible first | apply And.intro | intro _
   all_goals
     (try have p1 := hP _ (by assumption))
     (try have q1 := hQ _ (by assumption))
     clear hP hQ
     first | assumption | (clear c1 c2 c3 c4 c5 hk0; grind)
set_option maxHeartbeats 4000000 in
theorem qgb : ∀ ds, Sorts qqi.sorts ds → qzT.vc (TI N) ds := by
 refine kU fun T => qx fun n => qx fun i => zk ?_
 set_option linter.unusedSimpArgs false in
 simp (config := { maxSteps := 10000000 }) only [qzT, e23, e86, e93, e126, e127, e128, e129, e130, e131, e132, e133, e142, aM, e461, e462, e463, e464, e465, e466, e467, e468, e471, e474, Q8, Q7, e482, e483, e494, e495, Cc, e497, e498, Ct, e500, e501, Cr, e503, YD, e505, e506, e507, e508, e509, e510, e511, e512, e513, e514, e515, YB, e517, e518, e519, e520, e521, YG, e523, e524, e525, e526, e527, YV, e529, e530, e531, e532, e533, e534, e535, e536, e537, e538, e539, e540, e541, e542, e543, e544, e545, e546, e547, e548, e549, e550, e551, e552, e553, e554, e555, e556, e557, e558, e559, e560, e561, e562, e563, e564, e565, e566, e567, e568, e569, e570, e571, e572, e573, e574, e575, e576, e577, e578, e579, e580, e581, e582, e583, e584, e585, e586, e587, e588, e589, e590, e591, e592, e593, e594, e595, e596, e597, e598, e599, e600, e601, e602, e603, ν, κ, ο, γ, ω, ρ, χ, π, δ, ξ, υ, α, μ, β, η, τ, sln, fn1, fn2, z0, Tree.vc, PE.den, E.den, qK, BO.ev, List.getElem?_cons_zero, List.getElem?_cons_succ, List.cons_append, List.nil_append, Option.some.injEq, D.i.injEq, D.t.injEq, exists_eq_left', exists_const, forall_const, forall_eq', qY, qX, qo, zero_eq, min_i64, max_i64, min_u8, max_u8, and_true, true_and, Decidable.not_not, S3, S5, zH, P30, P32, P43, P45]
 intro i0 i1 hT hO
 obtain ⟨⟨hk, hx, hy, hz, hw, hn⟩, ha, hm⟩ : (I64 (T i 0) ∧ I64 (T i 3) ∧ I64 (T i 4) ∧ I64 (T i 5) ∧ I64 (T i 6) ∧ I64 (T i 7)) ∧ qy (T i 1) ≤ 100000 ∧ qy (T i 2) ≤ 100000 := ⟨hT.1 i i0 i1, hT.2 i i0 i1⟩
 generalize T i 0 = k at *
 generalize T i 1 = a at *
 generalize T i 2 = m at *
 generalize T i 3 = x at *
 generalize T i 4 = y at *
 generalize T i 5 = z at *
 generalize T i 6 = w at *
 generalize T i 7 = n' at *
 have hF := okF hO
 have hk1 := hF.k1
 have hk2 := hF.k13
 have hC := yE k.toNat
 simp only [XQ hF.k1 hF.k13, qzc hF.k1 hF.k13, kc' hF.k1 hF.k13, eIs, UU]
 have L : ∀ {T : Tb} {c : Int}, jh T ([kw.getD k.toNat []] ++ (if a = 0 then [] else [qj a]) ++ (if m = 0 then [] else [qj m]) ++ ([x, y, z].take (qW k.toNat)).map itoa ++ (if w = 1 then [wIs, itoa n'] else if w = 2 then [za, itoa n'] else [])) c →
   Short T c (-17) ∧ Jv k a m x y z w n' (kG T c (-17)) ∧ qy (kG T c (-17)) ≤ 200 := fun h => Hf hF hx hy hz hn h
 have ea : a = qZ (qj a) := (zf a).symm
 have em : m = qZ (qj m) := (zf m).symm
 refine ⟨by omega, by omega, ?_⟩
 have hx' : -9223372036854775808 ≤ x ∧ x ≤ 9223372036854775807 := hx
 have hy' : -9223372036854775808 ≤ y ∧ y ≤ 9223372036854775807 := hy
 have hz' : -9223372036854775808 ≤ z ∧ z ≤ 9223372036854775807 := hz
 have hn' : -9223372036854775808 ≤ n' ∧ n' ≤ 9223372036854775807 := hn
 clear hk ha hm hx hy hz hw hn hO hF hk1 hk2 i0 i1 hT
 generalize qW k.toNat = C at *
 generalize kw.getD k.toNat [] = K at *
 repeat' with_reducible first | refine L ?_ | apply And.intro | intro _
 all_goals first
   | omega
   | (first | rw [if_pos (by assumption : a = 0)] | rw [if_neg (by assumption : ¬ a = 0)]
      first | rw [if_pos (by assumption : m = 0)] | rw [if_neg (by assumption : ¬ m = 0)]
      first | rw [if_pos (by assumption : w = 1)] | rw [if_neg (by assumption : ¬ w = 1)]
      (try first | rw [if_pos (by assumption : w = 2)] | rw [if_neg (by assumption : ¬ w = 2)])
      have : C = 0 ∨ C = 1 ∨ C = 2 ∨ C = 3 := by omega
      rcases this with rfl | rfl | rfl | rfl
      all_goals first
        | (exfalso; omega)
        | (refine ⟨rfl, fun r v hr => ?_⟩
           rcases r with _ | _ | _ | _ | _ | _ | _ | _ | r <;> simp at hr <;> subst hr <;> simp [qg, ← ea, ← em]))
end Go.Tt
namespace Go.Tt
open Go Go.Sx Go.Lib Go.Sf
variable {N : Nat}
theorem ZB : ∀ (w : List UInt8) (l : List (List UInt8)), qI (w :: l) = w ++ l.flatMap fun v => 32 :: v
 | w, [] => by simp [qI]
 | w, v :: l => by rw [zX, if_neg (by simp), ZB v l]; simp
theorem Ec {k a m x y z w n : Int} (hF : OkF k a m x y z w n) (hx : I64 x) (hy : I64 y) (hz : I64 z) (hn : I64 n) {s : List UInt8}
   (hs : s = kw.getD k.toNat [] ++ ((if a = 0 then [] else [qj a]) ++ (if m = 0 then [] else [qj m]) ++ ([x, y, z].take (qW k.toNat)).map itoa ++ (if w = 1 then [wIs, itoa n] else if w = 2 then [za, itoa n] else [])).flatMap fun v => 32 :: v) :
   Jv k a m x y z w n (qZ s) ∧ qy (qZ s) ≤ 200 := by
 have hA : (a ≠ 0 ∧ (if a = 0 then [] else [qj a]) = [qj a]) ∨ (a = 0 ∧ (if a = 0 then [] else [qj a]) = []) := by
   by_cases h : a = 0
   · exact .inr ⟨h, if_pos h⟩
   · exact .inl ⟨h, if_neg h⟩
 have hM : (m ≠ 0 ∧ (if m = 0 then [] else [qj m]) = [qj m]) ∨ (m = 0 ∧ (if m = 0 then [] else [qj m]) = []) := by
   by_cases h : m = 0
   · exact .inr ⟨h, if_pos h⟩
   · exact .inl ⟨h, if_neg h⟩
 have hV : (w = 1 ∧ (if w = 1 then [wIs, itoa n] else if w = 2 then [za, itoa n] else []) = [wIs, itoa n]) ∨ (w = 2 ∧ (if w = 1 then [wIs, itoa n] else if w = 2 then [za, itoa n] else []) = [za, itoa n]) ∨ (w ≠ 1 ∧ w ≠ 2 ∧ (if w = 1 then [wIs, itoa n] else if w = 2 then [za, itoa n] else []) = []) := by
   by_cases h : w = 1
   · exact .inl ⟨h, if_pos h⟩
   · by_cases h2 : w = 2
     · exact .inr (.inl ⟨h2, by rw [if_neg h, if_pos h2]⟩)
     · exact .inr (.inr ⟨h, h2, by rw [if_neg h, if_neg h2]⟩)
 have ew := Sn hF hA hM rfl hV
 have hl := cZ hF hx hy hz hn
 have e : s = (stp k a m x y z w n).line := by
   show s = qI (stp k a m x y z w n).wd
   rw [ew, hs]
   simp only [List.append_assoc, List.cons_append, List.nil_append]
   rw [ZB]
 rw [e]
 exact ⟨fun _ => rfl, by rw [zP]; omega⟩
theorem Pk (a b : Int) : qj (QJ a b) = qj a ++ qj b := by unfold QJ; rw [qm]
theorem qv4 : qj (-280638737) = 32 :: (wIs ++ [32]) := by rw [show (-280638737 : Int) = qZ (32 :: (wIs ++ [32])) by decide, qm]
theorem M8 : qj (-4708343758271377) = 32 :: (za ++ [32]) := by rw [show (-4708343758271377 : Int) = qZ (32 :: (za ++ [32])) by decide, qm]
set_option maxHeartbeats 8000000 in
theorem qgp : ∀ ds, Sorts Iz.sorts ds → qzA.vc (TI N) ds := by
 refine qx fun k => qx fun a => qx fun m => qx fun x => qx fun y => qx fun z => qx fun w => qx fun n => zk ?_
 set_option linter.unusedSimpArgs false in
 simp (config := { maxSteps := 10000000 }) only [qzA, e1, e6, e34, p36, e80, p81, e85, e101, e102, VB, e116, e119, e122, e124, gV, gX, mY, e704, AQ, e706, e707, e708, e709, e710, e711, e712, Cv, e714, e715, Cy, e717, e718, Cw, e720, e721, iP, e723, e724, e725, Ck, e727, e728, e729, e730, e731, e732, e733, e734, e735, e736, e737, e738, e739, e740, e741, e742, e743, e744, e745, e746, e747, e748, e749, e750, e751, e752, e753, e754, e755, e756, e757, e758, e759, e760, e761, e762, e763, e764, e765, e766, e767, e768, e769, e770, e771, e772, e773, e774, e775, e776, e777, e778, e779, e780, e781, e782, e783, e784, ν, κ, ο, γ, ω, ρ, χ, π, δ, ξ, υ, α, μ, β, η, τ, sln, fn1, fn2, z0, Tree.vc, PE.den, E.den, qK, BO.ev, List.getElem?_cons_zero, List.getElem?_cons_succ, List.cons_append, List.nil_append, Option.some.injEq, D.i.injEq, D.t.injEq, exists_eq_left', exists_const, forall_const, forall_eq', qY, qX, qo, zero_eq, min_i64, max_i64, min_u8, max_u8, and_true, true_and, Decidable.not_not, S3, zH, K7, P32, P43, P80]
 intro hk ha hm hx hy hz hw hn hO T hT
 have hF := okF hO
 have k1 := hF.k1
 have k13 := hF.k13
 obtain ⟨t0, t1, t2, t3⟩ := hT k.toNat (by omega) (by omega)
 rw [show ((k.toNat : Nat) : Int) = k by omega] at t0 t1 t2 t3
 have hu : T k 1 = 23 ↔ a = 0 := by rw [t1, BF, hF.ar]
 have hv : T k 2 = 23 ↔ m = 0 := by rw [t2, BD, hF.nm]
 have hC := yE k.toNat
 have L : ∀ q : Int, qj q = kw.getD k.toNat [] ++ ((if a = 0 then [] else [qj a]) ++ (if m = 0 then [] else [qj m]) ++ ([x, y, z].take (qW k.toNat)).map itoa ++ (if w = 1 then [wIs, itoa n] else if w = 2 then [za, itoa n] else [])).flatMap (fun v => 32 :: v) →
   Jv k a m x y z w n q ∧ qy q ≤ 200 := fun q hq => by
     have := Ec hF hx hy hz hn hq
     rwa [zf] at this
 have l0 : qy (T k 0) ≤ 7 := by
   have := LD (k := k.toNat) (by omega)
   rw [t0, zP]; omega
 have s0 : qj (T k 0) = kw.getD k.toNat [] := by rw [t0, qm]
 have la : qy a ≤ 16 := by have := hF.a16; unfold qy; omega
 have lm : qy m ≤ 16 := by have := hF.m16; unfold qy; omega
 have li : ∀ {v : Int}, I64 v → qy (qZ (itoa v)) ≤ 20 := fun h => by have := jB h; rw [zP]; omega
 have lx := li hx
 have ly := li hy
 have lz := li hz
 have ln := li hn
 have l17 : qy (-17) = 1 := by decide
 have lis : qy (-280638737) = 4 := by unfold qy; rw [qv4]; rfl
 have lfa : qy (-4708343758271377) = 7 := by unfold qy; rw [M8]; rfl
 simp only [hu, hv, t3]
 clear hk ha hm hx hy hz hw hn hO hT hF t0 t1 t2 t3 hu hv li
 refine ⟨by omega, by omega, ?_⟩
 clear k1 k13
 generalize T k 0 = q0 at *
 generalize qW k.toNat = C at *
 generalize kw.getD k.toNat [] = K at *
 repeat' with_reducible first | refine L _ ?_ | apply And.intro | intro _
 all_goals first
   | omega
   | (simp only [vZ]; omega)
   | (simp only [Pk, qm, s0, blank, qv4, M8]
      first | rw [if_pos (by assumption : a = 0)] | rw [if_neg (by assumption : ¬ a = 0)]
      first | rw [if_pos (by assumption : m = 0)] | rw [if_neg (by assumption : ¬ m = 0)]
      first | rw [if_pos (by assumption : w = 1)] | rw [if_neg (by assumption : ¬ w = 1)]
      (try first | rw [if_pos (by assumption : w = 2)] | rw [if_neg (by assumption : ¬ w = 2)])
      have : C = 0 ∨ C = 1 ∨ C = 2 ∨ C = 3 := by omega
      rcases this with rfl | rfl | rfl | rfl
      all_goals first
        | (exfalso; omega)
        | simp)
end Go.Tt
namespace Go.Tt
open Go Go.Sx Go.Lib Go.Sf
variable {N : Nat}
theorem qy0 : ∀ ds, Sorts (aY 9).sorts ds → SA.vc (TI N) ds := by
 refine qx fun k => qx fun a => qx fun m => qx fun x => qx fun y => qx fun z => qx fun w => qx fun n => zk ?_
 set_option linter.unusedSimpArgs false in
 simp (config := { maxSteps := 10000000 }) only [SA, e1, e34, p36, e80, p81, VB, e295, ν, κ, ο, γ, ω, ρ, χ, π, δ, ξ, υ, α, μ, β, η, τ, sln, fn1, fn2, z0, Tree.vc, PE.den, E.den, qK, BO.ev, List.getElem?_cons_zero, List.getElem?_cons_succ, List.cons_append, List.nil_append, Option.some.injEq, D.i.injEq, D.t.injEq, exists_eq_left', exists_const, forall_const, forall_eq', qY, qX, qo, zero_eq, min_i64, max_i64, min_u8, max_u8, and_true, true_and, Decidable.not_not, zH, P31, P32, P43, P54]
 intro hk ha hm hx hy hz hw hn e he
 refine ⟨fun h => ⟨by rw [vH]; omega, he, fun h0 => absurd h0 h, fun _ => rfl⟩, fun h => ?_⟩
 subst h
 exact ⟨he.symm, fun s hs hl => ⟨he, fun _ => hs he.symm, fun h0 => absurd rfl h0⟩⟩
section
variable {s k a m x y z w n b e : Int}
end
end Go.Tt
