/-
  The formulas of the contracts hold: the errors of steps. Conditions: none; nothing here speaks of a program.
-/
import Derived.Test.YtdelhnefoccnbaaGreatDoorC2
import Derived.Test.YtdelhnefoccnbaaGreatDoorC5
namespace Go.Tt
open Go Go.Sx Go.Lib Go.Sf
variable {N : Nat}
theorem vTab : ∀ ds, Sorts cTab.sorts ds → tTab.vc (TI N) ds := by
  refine all_n ?_
  set_option linter.unusedSimpArgs false in
  simp (config := { maxSteps := 10000000 }) only [tTab, e126, e127, e128, e129, e130, e131, e132, ν, κ, ο, γ, ω, ρ, χ, π, δ, ξ, υ, α, μ, β, η, τ, sln, fn1, fn2, z0, Tree.vc, PE.den, E.den, dens, BO.ev, List.getElem?_cons_zero, List.getElem?_cons_succ, List.cons_append, List.nil_append, Option.some.injEq, D.i.injEq, D.t.injEq, exists_eq_left', exists_const, forall_const, forall_eq', one_ne, one_eq, zero_ne, zero_eq, min_i64, max_i64, min_u8, max_u8, and_true, true_and, Decidable.not_not, P80]
  intro k h1 h2
  have : k = 1 ∨ k = 2 ∨ k = 3 ∨ k = 4 ∨ k = 5 ∨ k = 6 ∨ k = 7 ∨ k = 8 ∨ k = 9 ∨ k = 10 ∨ k = 11 ∨ k = 12 ∨ k = 13 := by omega
  rw [kc h1 h2]
  rcases this with rfl | rfl | rfl | rfl | rfl | rfl | rfl | rfl | rfl | rfl | rfl | rfl | rfl <;> refine ⟨?_, ?_, ?_, ?_⟩ <;> decide
theorem nameF_iff {a : Int} : nameF a = 0 ↔ ¬ NameP (sdec a) := by
  unfold nameF
  by_cases h : NameP (sdec a)
  · rw [if_pos h]; exact ⟨(fun h => by cases h), fun h2 => absurd h h2⟩
  · rw [if_neg h]; exact ⟨fun _ => h, fun _ => rfl⟩
section
variable {k : Int} {A B C : Nat}
def C1 (k w n : Int) : Prop := k < 1 ∨ 13 < k ∨ w < 0 ∨ 2 < w ∨ (w = 0 ∧ n ≠ 0)
def C2 (A B C : Nat) (a m x y z : Int) : Prop := (A = 0 ∧ a ≠ 0) ∨ (B = 0 ∧ m ≠ 0) ∨ (C < 1 ∧ x ≠ 0) ∨ (C < 2 ∧ y ≠ 0) ∨ (C < 3 ∧ z ≠ 0)
def C3 (A B : Nat) (a m : Int) : Prop := (A ≠ 0 ∧ nameF a = 0) ∨ (B ≠ 0 ∧ nameF m = 0)
def C4 (x y z w n : Int) : Prop := (x < -1000000000000 ∨ 1000000000000 < x) ∨ (y < -1000000000000 ∨ 1000000000000 < y) ∨ (z < -1000000000000 ∨ 1000000000000 < z) ∨ (w = 1 ∧ (n < -1000000000000 ∨ 1000000000000 < n)) ∨ (w = 2 ∧ (n < 1 ∨ 999 < n))
theorem stepE_c (hA : kar k.toNat = A) (hB : knm k.toNat = B) (hC : knum k.toNat = C) (a m x y z w n : Int) :
    ((C1 k w n ∨ C2 A B C a m x y z) → stepE k (sdec a) (sdec m) x y z w n = 2) ∧ (¬ C1 k w n → ¬ C2 A B C a m x y z → (C3 A B a m → stepE k (sdec a) (sdec m) x y z w n = 6) ∧ (¬ C3 A B a m → (C4 x y z w n → stepE k (sdec a) (sdec m) x y z w n = 7) ∧ (¬ C4 x y z w n → stepE k (sdec a) (sdec m) x y z w n = 0))) := by
  subst hA; subst hB; subst hC
  unfold stepE
  have h2 : ((kar k.toNat = 0 ∧ sdec a ≠ []) ∨ (knm k.toNat = 0 ∧ sdec m ≠ []) ∨ (knum k.toNat < 1 ∧ x ≠ 0) ∨ (knum k.toNat < 2 ∧ y ≠ 0) ∨ (knum k.toNat < 3 ∧ z ≠ 0)) ↔ C2 (kar k.toNat) (knm k.toNat) (knum k.toNat) a m x y z := by
    unfold C2; rw [sdec_ne, sdec_ne]
  have h3 : ((kar k.toNat ≠ 0 ∧ ¬ NameP (sdec a)) ∨ (knm k.toNat ≠ 0 ∧ ¬ NameP (sdec m))) ↔ C3 (kar k.toNat) (knm k.toNat) a m := by
    unfold C3; rw [nameF_iff, nameF_iff]
  have h4 : (Big x ∨ Big y ∨ Big z ∨ (w = 1 ∧ Big n) ∨ (w = 2 ∧ (n < 1 ∨ 999 < n))) ↔ C4 x y z w n := Iff.rfl
  have h1 : (k < 1 ∨ 13 < k ∨ w < 0 ∨ 2 < w ∨ (w = 0 ∧ n ≠ 0)) ↔ C1 k w n := Iff.rfl
  refine ⟨fun h => ?_, fun g1 g2 => ⟨fun g3 => ?_, fun g3 => ⟨fun g4 => ?_, fun g4 => ?_⟩⟩⟩
  · by_cases hh : C1 k w n
    · rw [if_pos (h1.2 hh)]
    · rw [if_neg (fun e => hh (h1.1 e)), if_pos (h2.2 (h.resolve_left hh))]
  · rw [if_neg (fun e => g1 (h1.1 e)), if_neg (fun e => g2 (h2.1 e)), if_pos (h3.2 g3)]
  · rw [if_neg (fun e => g1 (h1.1 e)), if_neg (fun e => g2 (h2.1 e)), if_neg (fun e => g3 (h3.1 e)), if_pos (h4.2 g4)]
  · rw [if_neg (fun e => g1 (h1.1 e)), if_neg (fun e => g2 (h2.1 e)), if_neg (fun e => g3 (h3.1 e)), if_neg (fun e => g4 (h4.1 e))]
theorem sE2 (hA : kar k.toNat = A) (hB : knm k.toNat = B) (hC : knum k.toNat = C) (a m x y z w n : Int) (h : (k < 1 ∨ 13 < k ∨ w < 0 ∨ 2 < w ∨ (w = 0 ∧ n ≠ 0)) ∨ (A = 0 ∧ a ≠ 0) ∨ (B = 0 ∧ m ≠ 0) ∨ (C < 1 ∧ x ≠ 0) ∨ (C < 2 ∧ y ≠ 0) ∨ (C < 3 ∧ z ≠ 0)) : StepP k a m x y z w n 2 :=
  ((stepE_c hA hB hC a m x y z w n).1 h).symm
end
theorem any_rest {T : Tb} {lo i n : Int} (h : AnyI T lo i) (hn : ¬ i < n) : AnyP T lo n 0 := by
  refine ⟨fun h => absurd rfl h, fun ⟨j, h1, h2, h3⟩ => absurd (h j h1 (by omega)) h3⟩
theorem big_rest {T : Tb} {lo i n : Int} (h : BigI T lo i) (hn : ¬ i < n) : BigA T lo n 0 := by
  refine ⟨fun h => absurd rfl h, fun ⟨j, h1, h2, h3⟩ => absurd h3 (h j h1 (by omega))⟩
theorem shp_tail {k a m x y z w n : Int} {A B C : Nat} (hA : kar k.toNat = A) (hB : knm k.toNat = B) (hC : knum k.toNat = C) (hk1 : 1 ≤ k) (hk2 : k ≤ 13) (hw : 0 ≤ w) (hw2 : w ≤ 2) (hn : w = 0 → n = 0) :
    ∃ P Q : Prop, (∀ b : Int, AnyP (T3 x y z) (C : Int) (3 - C) b → (b = 0 ↔ ¬ P)) ∧ (∀ b : Int, BigA (T3 x y z) 0 3 b → (b = 0 ↔ ¬ Q)) ∧
    ((((A : Int) = 0 ∧ ¬ a = 0) ∨ ((B : Int) = 0 ∧ ¬ m = 0) ∨ P → StepP k a m x y z w n 2) ∧
    (((A : Int) = 0 → a = 0) → ((B : Int) = 0 → m = 0) → ¬ P → ((¬ (A : Int) = 0 ∧ nameF a = 0) ∨ (¬ (B : Int) = 0 ∧ nameF m = 0) → StepP k a m x y z w n 6) ∧
      (((A : Int) = 0 ∨ ¬ nameF a = 0) → ((B : Int) = 0 ∨ ¬ nameF m = 0) → (Q ∨ (w = 1 ∧ (n < -1000000000000 ∨ 1000000000000 < n)) ∨ (w = 2 ∧ (n < 1 ∨ 999 < n)) → StepP k a m x y z w n 7) ∧
        (¬ Q → (w = 1 → ¬ n < -1000000000000 ∧ ¬ 1000000000000 < n) → (w = 2 → ¬ n < 1 ∧ ¬ 999 < n) → StepP k a m x y z w n 0)))) := by
  have hc : C ≤ 3 := by rw [← hC]; exact knum_le _
  have hE := stepE_c hA hB hC a m x y z w n
  have g1 : ¬ C1 k w n := by unfold C1; omega
  refine ⟨((C < 1 ∧ x ≠ 0) ∨ (C < 2 ∧ y ≠ 0) ∨ (C < 3 ∧ z ≠ 0)), (Big x ∨ Big y ∨ Big z), fun b h => ?_, fun b h => ?_, fun h => ?_, fun ha hm hp => ⟨fun h => ?_, fun ha' hm' => ⟨fun h => ?_, fun hq h1 h2 => ?_⟩⟩⟩
  · have := any3 h (by omega)
    constructor
    · rintro rfl h2
      exact this.2 (by omega) rfl
    · intro h2
      exact Classical.byContradiction fun hb => h2 (by have := this.1 hb; omega)
  · have := big3 h
    constructor
    · rintro rfl h2
      exact this.2 h2 rfl
    · intro h2
      exact Classical.byContradiction fun hb => h2 (this.1 hb)
  · exact (hE.1 (.inr (by unfold C2; omega))).symm
  all_goals
    have g2 : ¬ C2 A B C a m x y z := by unfold C2; omega
  · exact ((hE.2 g1 g2).1 (by unfold C3; omega)).symm
  all_goals
    have g3 : ¬ C3 A B a m := by unfold C3; omega
  · refine (((hE.2 g1 g2).2 g3).1 ?_).symm
    unfold C4
    rcases h with (h | h | h) | h | h
    · exact .inl h
    · exact .inr (.inl h)
    · exact .inr (.inr (.inl h))
    · exact .inr (.inr (.inr (.inl h)))
    · exact .inr (.inr (.inr (.inr h)))
  · refine (((hE.2 g1 g2).2 g3).2 ?_).symm
    unfold C4
    rintro (h | h | h | ⟨h, h3⟩ | ⟨h, h3⟩)
    · exact hq (.inl h)
    · exact hq (.inr (.inl h))
    · exact hq (.inr (.inr h))
    · have := h1 h; omega
    · have := h2 h; omega
theorem vAny : ∀ ds, Sorts (cAny 54 81).sorts ds → tAny.vc (TI N) ds := by
  refine all_t fun T => all_i fun m => all_i fun lo => all_i fun n => all_n ?_
  set_option linter.unusedSimpArgs false in
  simp (config := { maxSteps := 10000000 }) only [tAny, p3, e23, p51, e58, e75, q76, ν, κ, ο, γ, ω, ρ, χ, π, δ, ξ, υ, α, μ, β, η, τ, sln, fn1, fn2, z0, Tree.vc, PE.den, E.den, dens, BO.ev, List.getElem?_cons_zero, List.getElem?_cons_succ, List.cons_append, List.nil_append, Option.some.injEq, D.i.injEq, D.t.injEq, exists_eq_left', exists_const, forall_const, forall_eq', one_ne, one_eq, zero_ne, zero_eq, min_i64, max_i64, min_u8, max_u8, and_true, true_and, Decidable.not_not, P81, P83]
  intro h0 h1 h2 h3
  refine ⟨fun j g1 g2 => by omega, fun i i0 i1 hI => ⟨fun hi => ⟨by omega, by omega, fun hT => ?_, fun hT => ⟨by omega, by omega, by omega, fun j g1 g2 => ?_, by omega, by omega⟩⟩, fun hi => any_rest hI hi⟩⟩
  · rw [if_pos i0]
    exact ⟨fun _ => ⟨lo + i, by omega, by omega, hT⟩, fun _ => by decide⟩
  · by_cases e : j = lo + i
    · rw [e]; exact hT
    · exact hI j g1 (by omega)
theorem vBig : ∀ ds, Sorts (cAny 55 82).sorts ds → tBig.vc (TI N) ds := by
  refine all_t fun T => all_i fun m => all_i fun lo => all_i fun n => all_n ?_
  set_option linter.unusedSimpArgs false in
  simp (config := { maxSteps := 10000000 }) only [tBig, p3, e23, p51, e58, e75, q76, e77, q78, e79, ν, κ, ο, γ, ω, ρ, χ, π, δ, ξ, υ, α, μ, β, η, τ, sln, fn1, fn2, z0, Tree.vc, PE.den, E.den, dens, BO.ev, List.getElem?_cons_zero, List.getElem?_cons_succ, List.cons_append, List.nil_append, Option.some.injEq, D.i.injEq, D.t.injEq, exists_eq_left', exists_const, forall_const, forall_eq', one_ne, one_eq, zero_ne, zero_eq, min_i64, max_i64, min_u8, max_u8, and_true, true_and, Decidable.not_not, P82, P84]
  intro h0 h1 h2 h3
  refine ⟨fun j g1 g2 => by omega, fun i i0 i1 hI => ⟨fun hi => ⟨by omega, by omega, fun hT => ?_, fun hT => ⟨fun hT2 => ?_, fun hT2 => ⟨by omega, by omega, by omega, fun j g1 g2 => ?_, by omega, by omega⟩⟩⟩, fun hi => big_rest hI hi⟩⟩
  · rw [if_pos i0]
    exact ⟨fun _ => ⟨lo + i, by omega, by omega, .inl hT⟩, fun _ => by decide⟩
  · rw [if_pos i0]
    exact ⟨fun _ => ⟨lo + i, by omega, by omega, .inr hT2⟩, fun _ => by decide⟩
  · by_cases e : j = lo + i
    · rw [e]; exact fun h => h.elim hT hT2
    · exact hI j g1 (by omega)
end Go.Tt
namespace Go.Tt
open Go Go.Sx Go.Lib Go.Sf
variable {N : Nat}
theorem u1_iff {k : Nat} : u1 k = 23 ↔ kar k = 0 := by
  unfold u1; split
  · exact ⟨fun _ => by assumption, fun _ => rfl⟩
  · split <;> exact ⟨fun h => absurd h (by decide), fun h => absurd h (by assumption)⟩
theorem u2_iff {k : Nat} : u2 k = 23 ↔ knm k = 0 := by
  unfold u2; split
  · exact ⟨fun _ => by assumption, fun _ => rfl⟩
  · repeat' split
    all_goals exact ⟨fun h => absurd h (by decide), fun h => absurd h (by assumption)⟩
section
variable {k a m x y z w n u v c : Int}
theorem sr_c (hu : u = u1 k.toNat) (hv : v = u2 k.toNat) (hc : c = (knum k.toNat : Nat)) :
    (C2 (kar k.toNat) (knm k.toNat) (knum k.toNat) a m x y z ↔ (u = 23 ∧ ¬ a = 0) ∨ (v = 23 ∧ ¬ m = 0) ∨ (c < 1 ∧ ¬ x = 0) ∨ (c < 2 ∧ ¬ y = 0) ∨ (c < 3 ∧ ¬ z = 0)) ∧
    (C3 (kar k.toNat) (knm k.toNat) a m ↔ (¬ u = 23 ∧ nameF a = 0) ∨ (¬ v = 23 ∧ nameF m = 0)) := by
  have h1 := @u1_iff k.toNat
  have h2 := @u2_iff k.toNat
  subst hu; subst hv
  unfold C2 C3
  rw [h1, h2, hc]
  constructor
  · omega
  · exact Iff.rfl
theorem sr2 (hu : u = u1 k.toNat) (hv : v = u2 k.toNat) (hc : c = (knum k.toNat : Nat)) (h : (u = 23 ∧ ¬ a = 0) ∨ (v = 23 ∧ ¬ m = 0) ∨ (c < 1 ∧ ¬ x = 0) ∨ (c < 2 ∧ ¬ y = 0) ∨ (c < 3 ∧ ¬ z = 0)) : StepP k a m x y z w n 2 :=
  ((stepE_c rfl rfl rfl a m x y z w n).1 (.inr ((sr_c hu hv hc).1.2 h))).symm
theorem sr6 (hu : u = u1 k.toNat) (hv : v = u2 k.toNat) (hc : c = (knum k.toNat : Nat)) (h1 : ¬ C1 k w n) (h2 : ¬ ((u = 23 ∧ ¬ a = 0) ∨ (v = 23 ∧ ¬ m = 0) ∨ (c < 1 ∧ ¬ x = 0) ∨ (c < 2 ∧ ¬ y = 0) ∨ (c < 3 ∧ ¬ z = 0)))
    (h3 : (¬ u = 23 ∧ nameF a = 0) ∨ (¬ v = 23 ∧ nameF m = 0)) : StepP k a m x y z w n 6 :=
  (((stepE_c rfl rfl rfl a m x y z w n).2 h1 (fun e => h2 ((sr_c hu hv hc).1.1 e))).1 ((sr_c (x := x) (y := y) (z := z) hu hv hc).2.2 h3)).symm
theorem sr7 (hu : u = u1 k.toNat) (hv : v = u2 k.toNat) (hc : c = (knum k.toNat : Nat)) (h1 : ¬ C1 k w n) (h2 : ¬ ((u = 23 ∧ ¬ a = 0) ∨ (v = 23 ∧ ¬ m = 0) ∨ (c < 1 ∧ ¬ x = 0) ∨ (c < 2 ∧ ¬ y = 0) ∨ (c < 3 ∧ ¬ z = 0)))
    (h3 : ¬ ((¬ u = 23 ∧ nameF a = 0) ∨ (¬ v = 23 ∧ nameF m = 0))) (h4 : C4 x y z w n) : StepP k a m x y z w n 7 :=
  ((((stepE_c rfl rfl rfl a m x y z w n).2 h1 (fun e => h2 ((sr_c hu hv hc).1.1 e))).2 (fun e => h3 ((sr_c (x := x) (y := y) (z := z) hu hv hc).2.1 e))).1 h4).symm
theorem sr0 (hu : u = u1 k.toNat) (hv : v = u2 k.toNat) (hc : c = (knum k.toNat : Nat)) (h1 : ¬ C1 k w n) (h2 : ¬ ((u = 23 ∧ ¬ a = 0) ∨ (v = 23 ∧ ¬ m = 0) ∨ (c < 1 ∧ ¬ x = 0) ∨ (c < 2 ∧ ¬ y = 0) ∨ (c < 3 ∧ ¬ z = 0)))
    (h3 : ¬ ((¬ u = 23 ∧ nameF a = 0) ∨ (¬ v = 23 ∧ nameF m = 0))) (h4 : ¬ C4 x y z w n) : StepP k a m x y z w n 0 :=
  ((((stepE_c rfl rfl rfl a m x y z w n).2 h1 (fun e => h2 ((sr_c hu hv hc).1.1 e))).2 (fun e => h3 ((sr_c (x := x) (y := y) (z := z) hu hv hc).2.1 e))).2 h4).symm
theorem sr1 (h : C1 k w n) : StepP k a m x y z w n 2 := ((stepE_c rfl rfl rfl a m x y z w n).1 (.inl h)).symm
end
set_option maxHeartbeats 8000000 in
theorem vStepR : ∀ ds, Sorts cStepR.sorts ds → tStepR.vc (TI N) ds := by
  refine all_i fun k => all_i fun a => all_i fun m => all_i fun x => all_i fun y => all_i fun z => all_i fun w => all_i fun n => all_n ?_
  set_option linter.unusedSimpArgs false in
  simp (config := { maxSteps := 10000000 }) only [tStepR, e1, e34, p36, e41, e43, e77, e79, e80, p81, q82, e83, e84, e85, e91, e92, q100, e101, e102, q103, q104, q107, e110, e331, e332, e333, e334, e335, q336, q337, q338, q339, q340, q341, q342, q343, q344, q345, q346, q347, q348, ν, κ, ο, γ, ω, ρ, χ, π, δ, ξ, υ, α, μ, β, η, τ, sln, fn1, fn2, z0, Tree.vc, PE.den, E.den, dens, BO.ev, List.getElem?_cons_zero, List.getElem?_cons_succ, List.cons_append, List.nil_append, Option.some.injEq, D.i.injEq, D.t.injEq, exists_eq_left', exists_const, forall_const, forall_eq', one_ne, one_eq, zero_ne, zero_eq, min_i64, max_i64, min_u8, max_u8, and_true, true_and, Decidable.not_not, S20, S1001, P31, P80]
  intro hk ha hm hx hy hz hw hn
  clear hk ha hm hx hy hz hw hn
  refine ⟨fun h => sr1 (.inl h), fun h1 f _ => ⟨fun h => sr1 (.inr (.inl (by omega))), fun h2 => ⟨fun h => sr1 (.inr (.inr (.inl h))), fun h3 => ⟨fun h => sr1 (.inr (.inr (.inr (.inl h)))), fun h4 => ?_⟩⟩⟩⟩
  refine ⟨fun h5 => ⟨fun h => sr1 (.inr (.inr (.inr (.inr ⟨h5, h⟩)))), fun h6 f hf => ?_⟩, fun h5 f hf => ?_⟩
  all_goals
    have hC : ¬ C1 k w n := by unfold C1; omega
    have hf := hf k.toNat (by omega) (by omega)
    rw [show ((k.toNat : Nat) : Int) = k by omega] at hf
    obtain ⟨_, hu, hv, hc⟩ := hf
    have hk0 : 0 ≤ k := by omega
    clear h1 h2 h3 h4
    generalize f k 1 = u at hu ⊢
    generalize f k 2 = v at hv ⊢
    generalize f k 3 = c at hc ⊢
    refine ⟨hk0, ?_⟩
    clear hk0
    repeat' with_reducible first | apply And.intro | intro _
    all_goals first
      | exact sr2 hu hv hc (by clear hu hv hc hC; omega)
      | exact sr6 hu hv hc hC (by clear hu hv hc hC; omega) (by clear hu hv hc hC; omega)
      | exact sr7 hu hv hc hC (by clear hu hv hc hC; omega) (by clear hu hv hc hC; omega) (by clear hu hv hc hC; unfold C4; omega)
      | exact sr0 hu hv hc hC (by clear hu hv hc hC; omega) (by clear hu hv hc hC; omega) (by clear hu hv hc hC; unfold C4; omega)
end Go.Tt
namespace Go.Tt
open Go Go.Sx Go.Lib Go.Sf
variable {N : Nat}
theorem same_no {L A K L' A' K' n n' : Int} {T T' : Tb} (h : ¬ (L = L' ∧ A = A' ∧ K = K' ∧ n = n' ∧ ∀ r : Nat, (r : Int) < n → ∀ c < 8, T r c = T' r c)) : SameP L A K T n L' A' K' T' n' 0 := ⟨fun h0 => absurd rfl h0, fun h1 => absurd h1 h⟩
theorem lt8 {c : Nat} (h : c < 8) : c = 0 ∨ c = 1 ∨ c = 2 ∨ c = 3 ∨ c = 4 ∨ c = 5 ∨ c = 6 ∨ c = 7 := by omega
theorem vSame : ∀ ds, Sorts cSame.sorts ds → tSame.vc (TI N) ds := by
  refine all_i fun L => all_i fun A => all_i fun K => all_t fun T => all_i fun n => all_i fun L' => all_i fun A' => all_i fun K' => all_t fun T' => all_i fun n' => all_n ?_
  set_option linter.unusedSimpArgs false in
  simp (config := { maxSteps := 10000000 }) only [tSame, e6, p51, p237, p238, p614, p615, q657, e658, e659, e660, e661, e662, e663, e664, e665, e666, q667, ν, κ, ο, γ, ω, ρ, χ, π, δ, ξ, υ, α, μ, β, η, τ, sln, fn1, fn2, z0, Tree.vc, PE.den, E.den, dens, BO.ev, List.getElem?_cons_zero, List.getElem?_cons_succ, List.cons_append, List.nil_append, Option.some.injEq, D.i.injEq, D.t.injEq, exists_eq_left', exists_const, forall_const, forall_eq', one_ne, one_eq, zero_ne, zero_eq, min_i64, max_i64, min_u8, max_u8, and_true, true_and, Decidable.not_not, P45, P67, P68]
  intro h0 hb _ _ _ _ h0' hb' _ _ _ _
  refine ⟨fun h => same_no fun g => h g.1, fun e1 => ⟨fun h => same_no fun g => h g.2.1, fun e2 => ⟨fun h => same_no fun g => h g.2.2.1, fun e3 => ⟨fun h => same_no fun g => h g.2.2.2.1, fun e4 => ⟨fun r hr => by omega, fun i i0 i1 i2 hI => ⟨fun hi => ⟨by omega, fun h => same_no fun g => h ?_, fun h => ⟨by omega, by omega, by omega, by omega, fun r hr c hc => ?_, by omega, by omega⟩⟩, fun hi => ?_⟩⟩⟩⟩⟩⟩
  · have g := g.2.2.2.2 i.toNat (by omega)
    rw [show ((i.toNat : Nat) : Int) = i by omega] at g
    exact ⟨g 0 (by decide), g 1 (by decide), g 2 (by decide), g 3 (by decide), g 4 (by decide), g 5 (by decide), g 6 (by decide), g 7 (by decide), by decide⟩
  · by_cases e : (r : Int) = i
    · rw [e]
      obtain ⟨g0, g1, g2, g3, g4, g5, g6, g7, _⟩ := h
      rcases lt8 hc with rfl | rfl | rfl | rfl | rfl | rfl | rfl | rfl <;> assumption
    · exact hI r (by omega) c hc
  · exact ⟨fun _ => ⟨e1, e2, e3, e4, fun r hr => hI r (by omega)⟩, fun _ => by decide⟩
theorem far_1 {T : Tb} {n : Int} : FarP T n 1 := fun h => absurd h (by decide)
theorem vFar : ∀ ds, Sorts cFar.sorts ds → tFar.vc (TI N) ds := by
  refine all_i fun L => all_i fun A => all_i fun K => all_t fun T => all_i fun n => all_n ?_
  set_option linter.unusedSimpArgs false in
  simp (config := { maxSteps := 10000000 }) only [tFar, p51, e62, p236, e619, e621, e622, p624, q629, q668, q669, ν, κ, ο, γ, ω, ρ, χ, π, δ, ξ, υ, α, μ, β, η, τ, sln, fn1, fn2, z0, Tree.vc, PE.den, E.den, dens, BO.ev, List.getElem?_cons_zero, List.getElem?_cons_succ, List.cons_append, List.nil_append, Option.some.injEq, D.i.injEq, D.t.injEq, exists_eq_left', exists_const, forall_const, forall_eq', one_ne, one_eq, zero_ne, zero_eq, min_i64, max_i64, min_u8, max_u8, and_true, true_and, Decidable.not_not, S1001, P69, P70]
  intro h0 hn
  have key : (n ≤ 60 ∨ 500 < n) → n ≤ 600 → (FarI T 0 ∧ ∀ i : Int, 0 ≤ i → i ≤ n → FarI T i → (i < n → (100 < slen (T i 1) → FarP T n 1) ∧ (¬100 < slen (T i 1) → (100 < slen (T i 2) → FarP T n 1) ∧ (¬100 < slen (T i 2) → (-9223372036854775808 ≤ i + 1 ∧ i + 1 ≤ 9223372036854775807) ∧ 0 ≤ i + 1 ∧ i + 1 ≤ n ∧ FarI T (i + 1) ∧ 0 ≤ n - (i + 1) ∧ n - (i + 1) < n - i))) ∧ (¬i < n → FarP T n 0)) := by
    intro h1 h2
    refine ⟨fun r r0 r1 => by omega, fun i i0 i1 hI => ⟨fun hi => ⟨fun _ => far_1, fun g1 => ⟨fun _ => far_1, fun g2 => ⟨by omega, by omega, by omega, fun r r0 r1 => ?_, by omega, by omega⟩⟩⟩, fun hi _ => ⟨h1, h2, fun r r0 r1 => hI r r0 (by omega)⟩⟩⟩
    by_cases e : r = i
    · subst e; omega
    · exact hI r r0 (by omega)
  exact ⟨fun g1 => ⟨fun _ => far_1, fun g2 => ⟨fun _ => far_1, fun g3 => key (by omega) (by omega)⟩⟩, fun g1 => ⟨fun _ => far_1, fun g3 => key (by omega) (by omega)⟩⟩
set_option maxHeartbeats 8000000 in
theorem vShpR : ∀ ds, Sorts cShpR.sorts ds → tShpR.vc (TI N) ds := by
  refine all_t fun T => all_i fun n => all_i fun i => all_n ?_
  set_option linter.unusedSimpArgs false in
  simp (config := { maxSteps := 10000000 }) only [tShpR, e1, e23, e77, e79, e86, e87, e88, e89, e93, p460, e461, e462, e463, e464, e465, e466, e467, e468, q469, e470, e471, p472, e473, e474, p475, p476, e477, p478, p479, e480, q481, e482, e483, q484, q485, q486, p487, q488, q489, q490, p491, q492, q493, ν, κ, ο, γ, ω, ρ, χ, π, δ, ξ, υ, α, μ, β, η, τ, sln, fn1, fn2, z0, Tree.vc, PE.den, E.den, dens, BO.ev, List.getElem?_cons_zero, List.getElem?_cons_succ, List.cons_append, List.nil_append, Option.some.injEq, D.i.injEq, D.t.injEq, exists_eq_left', exists_const, forall_const, forall_eq', one_ne, one_eq, zero_ne, zero_eq, min_i64, max_i64, min_u8, max_u8, and_true, true_and, Decidable.not_not, S20, S1001, P31, P45, P81, P82]
  intro i0 i1 hT
  obtain ⟨⟨hk, hx, hy, hz, hw, hn⟩, ha, hm⟩ : (I64 (T i 0) ∧ I64 (T i 3) ∧ I64 (T i 4) ∧ I64 (T i 5) ∧ I64 (T i 6) ∧ I64 (T i 7)) ∧ slen (T i 1) ≤ 100000 ∧ slen (T i 2) ≤ 100000 := ⟨hT.1 i i0 i1, hT.2 i i0 i1⟩
  generalize T i 0 = k at *
  generalize T i 1 = a at *
  generalize T i 2 = m at *
  generalize T i 3 = x at *
  generalize T i 4 = y at *
  generalize T i 5 = z at *
  generalize T i 6 = w at *
  generalize T i 7 = n' at *
  have hk : -9223372036854775808 ≤ k ∧ k ≤ 9223372036854775807 := hk
  have hw : -9223372036854775808 ≤ w ∧ w ≤ 9223372036854775807 := hw
  have e2 := @sE2 k _ _ _ rfl rfl rfl a m x y z w n'
  refine ⟨fun h => e2 (by omega), fun h1 => ⟨fun h => e2 (by omega), fun h2 => ⟨fun h => e2 (by omega), fun h3 => ⟨fun h => e2 (by omega), fun h4 => ⟨fun h5 => ⟨fun h => e2 (by omega), fun h6 => ?_⟩, fun h5 => ?_⟩⟩⟩⟩⟩
  all_goals
    have hk1 : 1 ≤ k := by omega
    have hk2 : k ≤ 13 := by omega
    clear e2
    simp only [colAr hk1 hk2, colNm hk1 hk2, colNum hk1 hk2]
    change _ ∧ _
    obtain ⟨P, Q, hP, hQ, f2, fx⟩ := @shp_tail k a m x y z w n' _ _ _ rfl rfl rfl hk1 hk2 (by omega) (by omega) (by omega)
    have hc := knum_le k.toNat
    generalize kar k.toNat = A at f2 fx ⊢
    generalize knm k.toNat = B at f2 fx ⊢
    generalize knum k.toNat = C at hP f2 fx hc ⊢
    unfold T3 at hP hQ
    have hk0 : 0 ≤ k := by omega
    have c1 : (0 : Int) ≤ C := by omega
    have c2 : (C : Int) ≤ 3 := by omega
    have c3 : (0 : Int) ≤ 3 - C := by omega
    have c4 : (C : Int) + (3 - C) ≤ 3 := by omega
    have c5 : (3 : Int) - C ≤ 1000 := by omega
    clear hk hx hy hz hw hn h1 h2 h3 h4 hk1 hk2 hc i0 i1 hT
    generalize tupd (tupd (tupd (fun _ _ => 0) 0 0 x) 1 0 y) 2 0 z = T at hP hQ ⊢
    generalize StepP k a m x y z w n' 2 = S2 at *
    generalize StepP k a m x y z w n' 6 = S6 at *
    generalize StepP k a m x y z w n' 7 = S7 at *
    generalize StepP k a m x y z w n' 0 = S0 at *
    repeat' with_reducible first | apply And.intro | intro _
    all_goals
      (try have p1 := hP _ (by assumption))
      (try have q1 := hQ _ (by assumption))
      clear hP hQ
      first | assumption | (clear c1 c2 c3 c4 c5 hk0; grind)
end Go.Tt
