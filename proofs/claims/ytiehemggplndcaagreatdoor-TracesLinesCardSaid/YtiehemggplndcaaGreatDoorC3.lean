/-
  The formulas of the contracts hold: the errors of steps. Conditions: none; nothing here speaks of a program.
-/
import Derived.Test.YtiehemggplndcaaGreatDoorC2
import Derived.Test.YtiehemggplndcaaGreatDoorC1
namespace Go.Tt
open Go Go.Sx Go.Lib Go.Sf
variable {N : Nat}
theorem vTab : ∀ ds, Sorts cTab.sorts ds → tTab.vc (TI N) ds := by
  refine all_n ?_
  set_option linter.unusedSimpArgs false in
  simp (config := { maxSteps := 10000000 }) only [tTab, e186, e187, e188, e189, e190, e191, e192, e193, e194, e195, e196, e197, Tree.vc, PE.den, E.den, dens, BO.ev, List.getElem?_cons_zero, List.getElem?_cons_succ, List.cons_append, List.nil_append, Option.some.injEq, D.i.injEq, D.t.injEq, exists_eq_left', exists_const, forall_const, forall_eq', one_ne, one_eq, zero_ne, zero_eq, min_i64, max_i64, min_u8, max_u8, and_true, true_and, Decidable.not_not, S3, S5, S6, S7, S8, S9, S10, S11, S12, S20, S1000, S1001, S1002, S1003, S1004, S1005, S1010, S1011, P10, P11, P12, P13, P14, P15, P16, P17, P20, P21, P22, P30, P31, P32, P33, P34, P35, P36, P37, P38, S13, S14, S15, S1008, S1009, P23, P40, P41, P42, P43, P44, P45, P46, P47, P48, P49, P50, P51, P52, P53, P54, P55, P56, P57, P58, P59, P60, P61, P62, P63, P64, P65, P66, P67, P68, P69, P70, P71, P72, P80, P73, P74, P81, P82, P83, P84]
  intro k h1 h2
  have : k = 1 ∨ k = 2 ∨ k = 3 ∨ k = 4 ∨ k = 5 ∨ k = 6 ∨ k = 7 ∨ k = 8 ∨ k = 9 ∨ k = 10 ∨ k = 11 ∨ k = 12 ∨ k = 13 := by omega
  rw [kc h1 h2]
  rcases this with rfl | rfl | rfl | rfl | rfl | rfl | rfl | rfl | rfl | rfl | rfl | rfl | rfl <;> refine ⟨?_, ?_, ?_, ?_⟩ <;> decide
theorem nameF_iff {a : Int} : nameF a = 0 ↔ ¬ NameP (sdec a) := by
  unfold nameF
  by_cases h : NameP (sdec a)
  · rw [if_pos h]; exact ⟨(fun h => by cases h), fun h2 => absurd h h2⟩
  · rw [if_neg h]; exact ⟨fun _ => h, fun _ => rfl⟩
section
variable {k : Int} {A B C : Nat}
def C1 (k w n : Int) : Prop := k < 1 ∨ 13 < k ∨ w < 0 ∨ 2 < w ∨ (w = 0 ∧ n ≠ 0)
def C2 (A B C : Nat) (a m x y z : Int) : Prop := (A = 0 ∧ a ≠ 0) ∨ (B = 0 ∧ m ≠ 0) ∨ (C < 1 ∧ x ≠ 0) ∨ (C < 2 ∧ y ≠ 0) ∨ (C < 3 ∧ z ≠ 0)
def C3 (A B : Nat) (a m : Int) : Prop := (A ≠ 0 ∧ nameF a = 0) ∨ (B ≠ 0 ∧ nameF m = 0)
def C4 (x y z w n : Int) : Prop := (x < -1000000000000 ∨ 1000000000000 < x) ∨ (y < -1000000000000 ∨ 1000000000000 < y) ∨ (z < -1000000000000 ∨ 1000000000000 < z) ∨ (w = 1 ∧ (n < -1000000000000 ∨ 1000000000000 < n)) ∨ (w = 2 ∧ (n < 1 ∨ 999 < n))
theorem stepE_c (hA : kar k.toNat = A) (hB : knm k.toNat = B) (hC : knum k.toNat = C) (a m x y z w n : Int) :
    ((C1 k w n ∨ C2 A B C a m x y z) → stepE k (sdec a) (sdec m) x y z w n = 2) ∧ (¬ C1 k w n → ¬ C2 A B C a m x y z → (C3 A B a m → stepE k (sdec a) (sdec m) x y z w n = 6) ∧ (¬ C3 A B a m → (C4 x y z w n → stepE k (sdec a) (sdec m) x y z w n = 7) ∧ (¬ C4 x y z w n → stepE k (sdec a) (sdec m) x y z w n = 0))) := by
  subst hA; subst hB; subst hC
  unfold stepE
  have h2 : ((kar k.toNat = 0 ∧ sdec a ≠ []) ∨ (knm k.toNat = 0 ∧ sdec m ≠ []) ∨ (knum k.toNat < 1 ∧ x ≠ 0) ∨ (knum k.toNat < 2 ∧ y ≠ 0) ∨ (knum k.toNat < 3 ∧ z ≠ 0)) ↔ C2 (kar k.toNat) (knm k.toNat) (knum k.toNat) a m x y z := by
    unfold C2; rw [sdec_ne, sdec_ne]
  have h3 : ((kar k.toNat ≠ 0 ∧ ¬ NameP (sdec a)) ∨ (knm k.toNat ≠ 0 ∧ ¬ NameP (sdec m))) ↔ C3 (kar k.toNat) (knm k.toNat) a m := by
    unfold C3; rw [nameF_iff, nameF_iff]
  have h4 : (Big x ∨ Big y ∨ Big z ∨ (w = 1 ∧ Big n) ∨ (w = 2 ∧ (n < 1 ∨ 999 < n))) ↔ C4 x y z w n := Iff.rfl
  have h1 : (k < 1 ∨ 13 < k ∨ w < 0 ∨ 2 < w ∨ (w = 0 ∧ n ≠ 0)) ↔ C1 k w n := Iff.rfl
  refine ⟨fun h => ?_, fun g1 g2 => ⟨fun g3 => ?_, fun g3 => ⟨fun g4 => ?_, fun g4 => ?_⟩⟩⟩
  · by_cases hh : C1 k w n
    · rw [if_pos (h1.2 hh)]
    · rw [if_neg (fun e => hh (h1.1 e)), if_pos (h2.2 (h.resolve_left hh))]
  · rw [if_neg (fun e => g1 (h1.1 e)), if_neg (fun e => g2 (h2.1 e)), if_pos (h3.2 g3)]
  · rw [if_neg (fun e => g1 (h1.1 e)), if_neg (fun e => g2 (h2.1 e)), if_neg (fun e => g3 (h3.1 e)), if_pos (h4.2 g4)]
  · rw [if_neg (fun e => g1 (h1.1 e)), if_neg (fun e => g2 (h2.1 e)), if_neg (fun e => g3 (h3.1 e)), if_neg (fun e => g4 (h4.1 e))]
theorem sE2 (hA : kar k.toNat = A) (hB : knm k.toNat = B) (hC : knum k.toNat = C) (a m x y z w n : Int) (h : (k < 1 ∨ 13 < k ∨ w < 0 ∨ 2 < w ∨ (w = 0 ∧ n ≠ 0)) ∨ (A = 0 ∧ a ≠ 0) ∨ (B = 0 ∧ m ≠ 0) ∨ (C < 1 ∧ x ≠ 0) ∨ (C < 2 ∧ y ≠ 0) ∨ (C < 3 ∧ z ≠ 0)) : StepP k a m x y z w n 2 :=
  ((stepE_c hA hB hC a m x y z w n).1 h).symm
theorem sE6 (hA : kar k.toNat = A) (hB : knm k.toNat = B) (hC : knum k.toNat = C) (a m x y z w n : Int) (h1 : ¬ (k < 1 ∨ 13 < k ∨ w < 0 ∨ 2 < w ∨ (w = 0 ∧ n ≠ 0))) (h2 : ¬ ((A = 0 ∧ a ≠ 0) ∨ (B = 0 ∧ m ≠ 0) ∨ (C < 1 ∧ x ≠ 0) ∨ (C < 2 ∧ y ≠ 0) ∨ (C < 3 ∧ z ≠ 0)))
    (h3 : (A ≠ 0 ∧ nameF a = 0) ∨ (B ≠ 0 ∧ nameF m = 0)) : StepP k a m x y z w n 6 := (((stepE_c hA hB hC a m x y z w n).2 h1 h2).1 h3).symm
theorem sE7 (hA : kar k.toNat = A) (hB : knm k.toNat = B) (hC : knum k.toNat = C) (a m x y z w n : Int) (h1 : ¬ (k < 1 ∨ 13 < k ∨ w < 0 ∨ 2 < w ∨ (w = 0 ∧ n ≠ 0))) (h2 : ¬ ((A = 0 ∧ a ≠ 0) ∨ (B = 0 ∧ m ≠ 0) ∨ (C < 1 ∧ x ≠ 0) ∨ (C < 2 ∧ y ≠ 0) ∨ (C < 3 ∧ z ≠ 0)))
    (h3 : ¬ ((A ≠ 0 ∧ nameF a = 0) ∨ (B ≠ 0 ∧ nameF m = 0))) (h4 : (x < -1000000000000 ∨ 1000000000000 < x) ∨ (y < -1000000000000 ∨ 1000000000000 < y) ∨ (z < -1000000000000 ∨ 1000000000000 < z) ∨ (w = 1 ∧ (n < -1000000000000 ∨ 1000000000000 < n)) ∨ (w = 2 ∧ (n < 1 ∨ 999 < n))) :
    StepP k a m x y z w n 7 := ((((stepE_c hA hB hC a m x y z w n).2 h1 h2).2 h3).1 h4).symm
theorem sE0 (hA : kar k.toNat = A) (hB : knm k.toNat = B) (hC : knum k.toNat = C) (a m x y z w n : Int) (h1 : ¬ (k < 1 ∨ 13 < k ∨ w < 0 ∨ 2 < w ∨ (w = 0 ∧ n ≠ 0))) (h2 : ¬ ((A = 0 ∧ a ≠ 0) ∨ (B = 0 ∧ m ≠ 0) ∨ (C < 1 ∧ x ≠ 0) ∨ (C < 2 ∧ y ≠ 0) ∨ (C < 3 ∧ z ≠ 0)))
    (h3 : ¬ ((A ≠ 0 ∧ nameF a = 0) ∨ (B ≠ 0 ∧ nameF m = 0))) (h4 : ¬ ((x < -1000000000000 ∨ 1000000000000 < x) ∨ (y < -1000000000000 ∨ 1000000000000 < y) ∨ (z < -1000000000000 ∨ 1000000000000 < z) ∨ (w = 1 ∧ (n < -1000000000000 ∨ 1000000000000 < n)) ∨ (w = 2 ∧ (n < 1 ∨ 999 < n)))) :
    StepP k a m x y z w n 0 := ((((stepE_c hA hB hC a m x y z w n).2 h1 h2).2 h3).2 h4).symm
end
theorem any_rest {T : Tb} {lo i n : Int} (h : AnyI T lo i) (hn : ¬ i < n) : AnyP T lo n 0 := by
  refine ⟨fun h => absurd rfl h, fun ⟨j, h1, h2, h3⟩ => absurd (h j h1 (by omega)) h3⟩
theorem big_rest {T : Tb} {lo i n : Int} (h : BigI T lo i) (hn : ¬ i < n) : BigA T lo n 0 := by
  refine ⟨fun h => absurd rfl h, fun ⟨j, h1, h2, h3⟩ => absurd h3 (h j h1 (by omega))⟩
theorem shp_tail {k a m x y z w n : Int} {A B C : Nat} (hA : kar k.toNat = A) (hB : knm k.toNat = B) (hC : knum k.toNat = C) (hk1 : 1 ≤ k) (hk2 : k ≤ 13) (hw : 0 ≤ w) (hw2 : w ≤ 2) (hn : w = 0 → n = 0) :
    ∃ P Q : Prop, (∀ b : Int, AnyP (T3 x y z) (C : Int) (3 - C) b → (b = 0 ↔ ¬ P)) ∧ (∀ b : Int, BigA (T3 x y z) 0 3 b → (b = 0 ↔ ¬ Q)) ∧
    ((((A : Int) = 0 ∧ ¬ a = 0) ∨ ((B : Int) = 0 ∧ ¬ m = 0) ∨ P → StepP k a m x y z w n 2) ∧
    (((A : Int) = 0 → a = 0) → ((B : Int) = 0 → m = 0) → ¬ P → ((¬ (A : Int) = 0 ∧ nameF a = 0) ∨ (¬ (B : Int) = 0 ∧ nameF m = 0) → StepP k a m x y z w n 6) ∧
      (((A : Int) = 0 ∨ ¬ nameF a = 0) → ((B : Int) = 0 ∨ ¬ nameF m = 0) → (Q ∨ (w = 1 ∧ (n < -1000000000000 ∨ 1000000000000 < n)) ∨ (w = 2 ∧ (n < 1 ∨ 999 < n)) → StepP k a m x y z w n 7) ∧
        (¬ Q → (w = 1 → ¬ n < -1000000000000 ∧ ¬ 1000000000000 < n) → (w = 2 → ¬ n < 1 ∧ ¬ 999 < n) → StepP k a m x y z w n 0)))) := by
  have hc : C ≤ 3 := by rw [← hC]; exact knum_le _
  have hE := stepE_c hA hB hC a m x y z w n
  have g1 : ¬ C1 k w n := by unfold C1; omega
  refine ⟨((C < 1 ∧ x ≠ 0) ∨ (C < 2 ∧ y ≠ 0) ∨ (C < 3 ∧ z ≠ 0)), (Big x ∨ Big y ∨ Big z), fun b h => ?_, fun b h => ?_, fun h => ?_, fun ha hm hp => ⟨fun h => ?_, fun ha' hm' => ⟨fun h => ?_, fun hq h1 h2 => ?_⟩⟩⟩
  · have := any3 h (by omega)
    constructor
    · rintro rfl h2
      exact this.2 (by omega) rfl
    · intro h2
      exact Classical.byContradiction fun hb => h2 (by have := this.1 hb; omega)
  · have := big3 h
    constructor
    · rintro rfl h2
      exact this.2 h2 rfl
    · intro h2
      exact Classical.byContradiction fun hb => h2 (this.1 hb)
  · exact (hE.1 (.inr (by unfold C2; omega))).symm
  all_goals
    have g2 : ¬ C2 A B C a m x y z := by unfold C2; omega
  · exact ((hE.2 g1 g2).1 (by unfold C3; omega)).symm
  all_goals
    have g3 : ¬ C3 A B a m := by unfold C3; omega
  · refine (((hE.2 g1 g2).2 g3).1 ?_).symm
    unfold C4
    rcases h with (h | h | h) | h | h
    · exact .inl h
    · exact .inr (.inl h)
    · exact .inr (.inr (.inl h))
    · exact .inr (.inr (.inr (.inl h)))
    · exact .inr (.inr (.inr (.inr h)))
  · refine (((hE.2 g1 g2).2 g3).2 ?_).symm
    unfold C4
    rintro (h | h | h | ⟨h, h3⟩ | ⟨h, h3⟩)
    · exact hq (.inl h)
    · exact hq (.inr (.inl h))
    · exact hq (.inr (.inr h))
    · have := h1 h; omega
    · have := h2 h; omega
set_option maxHeartbeats 8000000 in
theorem vShpC : ∀ ds, Sorts cShpC.sorts ds → tShpC.vc (TI N) ds := by
  refine all_i fun k => all_i fun a => all_i fun m => all_i fun x => all_i fun y => all_i fun z => all_i fun w => all_i fun n => all_n ?_
  set_option linter.unusedSimpArgs false in
  simp (config := { maxSteps := 10000000 }) only [tShpC, e1, e57, p60, e67, e125, e127, p128, e129, p130, p131, p132, p133, p134, p135, q136, e137, e138, e139, e140, e141, e142, e143, e144, e145, e146, e147, e148, e149, e150, p151, p152, e153, p154, p155, p156, e157, q158, e159, e160, q161, q162, q163, p164, q165, q166, q167, e168, e169, p170, q171, q172, Tree.vc, PE.den, E.den, dens, BO.ev, List.getElem?_cons_zero, List.getElem?_cons_succ, List.cons_append, List.nil_append, Option.some.injEq, D.i.injEq, D.t.injEq, exists_eq_left', exists_const, forall_const, forall_eq', one_ne, one_eq, zero_ne, zero_eq, min_i64, max_i64, min_u8, max_u8, and_true, true_and, Decidable.not_not, S3, S5, S6, S7, S8, S9, S10, S11, S12, S20, S1000, S1001, S1002, S1003, S1004, S1005, S1010, S1011, P10, P11, P12, P13, P14, P15, P16, P17, P20, P21, P22, P30, P31, P32, P33, P34, P35, P36, P37, P38, S13, S14, S15, S1008, S1009, P23, P40, P41, P42, P43, P44, P45, P46, P47, P48, P49, P50, P51, P52, P53, P54, P55, P56, P57, P58, P59, P60, P61, P62, P63, P64, P65, P66, P67, P68, P69, P70, P71, P72, P80, P73, P74, P81, P82, P83, P84]
  intro hk ha hm hx hy hz hw hn
  have e2 := @sE2 k _ _ _ rfl rfl rfl a m x y z w n
  refine ⟨fun h => e2 (by omega), fun h1 => ⟨fun h => e2 (by omega), fun h2 => ⟨fun h => e2 (by omega), fun h3 => ⟨fun h => e2 (by omega), fun h4 => ⟨fun h5 => ⟨fun h => e2 (by omega), fun h6 => ?_⟩, fun h5 => ?_⟩⟩⟩⟩⟩
  all_goals
    have hk1 : 1 ≤ k := by omega
    have hk2 : k ≤ 13 := by omega
    clear e2
    simp only [colAr hk1 hk2, colNm hk1 hk2, colNum hk1 hk2]
    change _ ∧ _
    obtain ⟨P, Q, hP, hQ, f2, fx⟩ := @shp_tail k a m x y z w n _ _ _ rfl rfl rfl hk1 hk2 (by omega) (by omega) (by omega)
    have hc := knum_le k.toNat
    generalize kar k.toNat = A at f2 fx ⊢
    generalize knm k.toNat = B at f2 fx ⊢
    generalize knum k.toNat = C at hP f2 fx hc ⊢
    unfold T3 at hP hQ
    have hk0 : 0 ≤ k := by omega
    have c1 : (0 : Int) ≤ C := by omega
    have c2 : (C : Int) ≤ 3 := by omega
    have c3 : (0 : Int) ≤ 3 - C := by omega
    have c4 : (C : Int) + (3 - C) ≤ 3 := by omega
    have c5 : (3 : Int) - C ≤ 1000 := by omega
    clear hk ha hm hx hy hz hw hn h1 h2 h3 h4 hk1 hk2 hc
    generalize tupd (tupd (tupd (fun _ _ => 0) 0 0 x) 1 0 y) 2 0 z = T at hP hQ ⊢
    generalize StepP k a m x y z w n 2 = S2 at *
    generalize StepP k a m x y z w n 6 = S6 at *
    generalize StepP k a m x y z w n 7 = S7 at *
    generalize StepP k a m x y z w n 0 = S0 at *
    repeat' with_reducible first | apply And.intro | intro _
    all_goals
      (try have p1 := hP _ (by assumption))
      (try have q1 := hQ _ (by assumption))
      clear hP hQ
      first | assumption | (clear c1 c2 c3 c4 c5 hk0; grind)
theorem vAny : ∀ ds, Sorts (cAny 54 81).sorts ds → tAny.vc (TI N) ds := by
  refine all_t fun T => all_i fun m => all_i fun lo => all_i fun n => all_n ?_
  set_option linter.unusedSimpArgs false in
  simp (config := { maxSteps := 10000000 }) only [tAny, p6, e34, p80, e90, p92, p118, p119, p120, e121, e122, p123, q124, Tree.vc, PE.den, E.den, dens, BO.ev, List.getElem?_cons_zero, List.getElem?_cons_succ, List.cons_append, List.nil_append, Option.some.injEq, D.i.injEq, D.t.injEq, exists_eq_left', exists_const, forall_const, forall_eq', one_ne, one_eq, zero_ne, zero_eq, min_i64, max_i64, min_u8, max_u8, and_true, true_and, Decidable.not_not, S3, S5, S6, S7, S8, S9, S10, S11, S12, S20, S1000, S1001, S1002, S1003, S1004, S1005, S1010, S1011, P10, P11, P12, P13, P14, P15, P16, P17, P20, P21, P22, P30, P31, P32, P33, P34, P35, P36, P37, P38, S13, S14, S15, S1008, S1009, P23, P40, P41, P42, P43, P44, P45, P46, P47, P48, P49, P50, P51, P52, P53, P54, P55, P56, P57, P58, P59, P60, P61, P62, P63, P64, P65, P66, P67, P68, P69, P70, P71, P72, P80, P73, P74, P81, P82, P83, P84]
  intro h0 h1 h2 h3
  refine ⟨fun j g1 g2 => by omega, fun i i0 i1 hI => ⟨fun hi => ⟨by omega, by omega, fun hT => ?_, fun hT => ⟨by omega, by omega, by omega, fun j g1 g2 => ?_, by omega, by omega⟩⟩, fun hi => any_rest hI hi⟩⟩
  · rw [if_pos i0]
    exact ⟨fun _ => ⟨lo + i, by omega, by omega, hT⟩, fun _ => by decide⟩
  · by_cases e : j = lo + i
    · rw [e]; exact hT
    · exact hI j g1 (by omega)
theorem vBig : ∀ ds, Sorts (cAny 55 82).sorts ds → tBig.vc (TI N) ds := by
  refine all_t fun T => all_i fun m => all_i fun lo => all_i fun n => all_n ?_
  set_option linter.unusedSimpArgs false in
  simp (config := { maxSteps := 10000000 }) only [tBig, p6, e34, p80, e90, p92, p118, p119, p120, e121, e122, p123, q124, e125, q126, e127, Tree.vc, PE.den, E.den, dens, BO.ev, List.getElem?_cons_zero, List.getElem?_cons_succ, List.cons_append, List.nil_append, Option.some.injEq, D.i.injEq, D.t.injEq, exists_eq_left', exists_const, forall_const, forall_eq', one_ne, one_eq, zero_ne, zero_eq, min_i64, max_i64, min_u8, max_u8, and_true, true_and, Decidable.not_not, S3, S5, S6, S7, S8, S9, S10, S11, S12, S20, S1000, S1001, S1002, S1003, S1004, S1005, S1010, S1011, P10, P11, P12, P13, P14, P15, P16, P17, P20, P21, P22, P30, P31, P32, P33, P34, P35, P36, P37, P38, S13, S14, S15, S1008, S1009, P23, P40, P41, P42, P43, P44, P45, P46, P47, P48, P49, P50, P51, P52, P53, P54, P55, P56, P57, P58, P59, P60, P61, P62, P63, P64, P65, P66, P67, P68, P69, P70, P71, P72, P80, P73, P74, P81, P82, P83, P84]
  intro h0 h1 h2 h3
  refine ⟨fun j g1 g2 => by omega, fun i i0 i1 hI => ⟨fun hi => ⟨by omega, by omega, fun hT => ?_, fun hT => ⟨fun hT2 => ?_, fun hT2 => ⟨by omega, by omega, by omega, fun j g1 g2 => ?_, by omega, by omega⟩⟩⟩, fun hi => big_rest hI hi⟩⟩
  · rw [if_pos i0]
    exact ⟨fun _ => ⟨lo + i, by omega, by omega, .inl hT⟩, fun _ => by decide⟩
  · rw [if_pos i0]
    exact ⟨fun _ => ⟨lo + i, by omega, by omega, .inr hT2⟩, fun _ => by decide⟩
  · by_cases e : j = lo + i
    · rw [e]; exact fun h => h.elim hT hT2
    · exact hI j g1 (by omega)
end Go.Tt
namespace Go.Tt
open Go Go.Sx Go.Lib Go.Sf
variable {N : Nat}
theorem joinW_mem : ∀ {ws : List (List UInt8)} {w : List UInt8}, w ∈ ws → w.length ≤ (joinW ws).length
  | [], w, h => by cases h
  | v :: l, w, h => by
    rw [joinW_cons, List.length_append]
    rcases List.mem_cons.1 h with rfl | h
    · omega
    · have := joinW_mem h
      rw [if_neg (fun e => by subst e; cases h), List.length_cons]
      omega
theorem wr_leaf {k a m x y z w n : Int} (hF : OkF k a m x y z w n) (hx : I64 x) (hy : I64 y) (hz : I64 z) (hn : I64 n) {T : Tb} {c : Int}
    (hT : RowsS T ([kw.getD k.toNat []] ++ (if a = 0 then [] else [sdec a]) ++ (if m = 0 then [] else [sdec m]) ++ ([x, y, z].take (knum k.toNat)).map itoa ++ (if w = 1 then [wIs, itoa n] else if w = 2 then [wFails, itoa n] else [])) c) :
    Short T c (-17) ∧ LineP k a m x y z w n (joinS T c (-17)) ∧ slen (joinS T c (-17)) ≤ 200 := by
  have hA : (a ≠ 0 ∧ (if a = 0 then [] else [sdec a]) = [sdec a]) ∨ (a = 0 ∧ (if a = 0 then [] else [sdec a]) = []) := by
    by_cases h : a = 0
    · exact .inr ⟨h, if_pos h⟩
    · exact .inl ⟨h, if_neg h⟩
  have hM : (m ≠ 0 ∧ (if m = 0 then [] else [sdec m]) = [sdec m]) ∨ (m = 0 ∧ (if m = 0 then [] else [sdec m]) = []) := by
    by_cases h : m = 0
    · exact .inr ⟨h, if_pos h⟩
    · exact .inl ⟨h, if_neg h⟩
  have hV : (w = 1 ∧ (if w = 1 then [wIs, itoa n] else if w = 2 then [wFails, itoa n] else []) = [wIs, itoa n]) ∨ (w = 2 ∧ (if w = 1 then [wIs, itoa n] else if w = 2 then [wFails, itoa n] else []) = [wFails, itoa n]) ∨ (w ≠ 1 ∧ w ≠ 2 ∧ (if w = 1 then [wIs, itoa n] else if w = 2 then [wFails, itoa n] else []) = []) := by
    by_cases h : w = 1
    · exact .inl ⟨h, if_pos h⟩
    · by_cases h2 : w = 2
      · exact .inr (.inl ⟨h2, by rw [if_neg h, if_pos h2]⟩)
      · exact .inr (.inr ⟨h, h2, by rw [if_neg h, if_neg h2]⟩)
  have e := line_of hF hA hM rfl hV hT
  have ew := wd_eq hF hA hM rfl hV
  have hl := line_short hF hx hy hz hn
  rw [← ew] at hT
  have h8 := wd_len (stp k a m x y z w n)
  refine ⟨short_rows hT (by omega) fun v hv => Nat.le_trans (joinW_mem hv) (by show (stp k a m x y z w n).line.length ≤ 1000; omega), fun _ => e, ?_⟩
  rw [e, slen_senc]
  omega
theorem kc' {k : Int} (h1 : 1 ≤ k) (h2 : k ≤ 13) : kcode k.toNat = senc (kw.getD k.toNat []) := kcw h1 h2
theorem eIs : (14901 : Int) = senc wIs := by decide
theorem eFails : (-250025947444 : Int) = senc wFails := by decide
set_option maxHeartbeats 4000000 in
theorem vWrC : ∀ ds, Sorts cWrC.sorts ds → tWrC.vc (TI N) ds := by
  refine all_i fun k => all_i fun a => all_i fun m => all_i fun x => all_i fun y => all_i fun z => all_i fun w => all_i fun n => all_n ?_
  set_option linter.unusedSimpArgs false in
  simp (config := { maxSteps := 10000000 }) only [tWrC, e1, e57, e58, p60, e67, p128, e129, p130, p131, p132, p133, p134, p135, e140, e141, e146, e149, e150, p151, p152, e159, e160, p173, p174, e175, e176, p177, e178, e179, p180, e181, e182, p183, e184, p185, e186, e187, e188, e189, e190, e191, e192, e193, e194, e195, e196, e197, e198, e199, e200, e201, e202, e203, e204, e205, e206, e207, e208, e209, e210, e211, e212, p213, e214, e215, e216, e217, e218, p219, e220, e221, e222, e223, e224, p225, e226, e227, e228, e229, e230, e231, e232, e233, e234, e235, e236, e237, e238, e239, e240, e241, e242, e243, e244, e245, e246, e247, e248, e249, e250, e251, e252, e253, e254, e255, e256, e257, e258, e259, e260, e261, e262, e263, e264, e265, e266, e267, e268, e269, e270, e271, e272, e273, e274, e275, e276, e277, e278, e279, e280, e281, e282, e283, e284, e285, e286, e287, e288, e289, e290, e291, e292, e293, e294, e295, e296, e297, e298, e299, e300, Tree.vc, PE.den, E.den, dens, BO.ev, List.getElem?_cons_zero, List.getElem?_cons_succ, List.cons_append, List.nil_append, Option.some.injEq, D.i.injEq, D.t.injEq, exists_eq_left', exists_const, forall_const, forall_eq', one_ne, one_eq, zero_ne, zero_eq, min_i64, max_i64, min_u8, max_u8, and_true, true_and, Decidable.not_not, S3, S5, S6, S7, S8, S9, S10, S11, S12, S20, S1000, S1001, S1002, S1003, S1004, S1005, S1010, S1011, P10, P11, P12, P13, P14, P15, P16, P17, P20, P21, P22, P30, P31, P32, P33, P34, P35, P36, P37, P38, S13, S14, S15, S1008, S1009, P23, P40, P41, P42, P43, P44, P45, P46, P47, P48, P49, P50, P51, P52, P53, P54, P55, P56, P57, P58, P59, P60, P61, P62, P63, P64, P65, P66, P67, P68, P69, P70, P71, P72, P80, P73, P74, P81, P82, P83, P84]
  intro hk ha hm hx hy hz hw hn hO
  have hF := okF hO
  have hk1 := hF.k1
  have hk2 := hF.k13
  have hC := knum_le k.toNat
  simp only [colNum hF.k1 hF.k13, colWd hF.k1 hF.k13, kc' hF.k1 hF.k13, eIs, eFails]
  have L : ∀ {T : Tb} {c : Int}, RowsS T ([kw.getD k.toNat []] ++ (if a = 0 then [] else [sdec a]) ++ (if m = 0 then [] else [sdec m]) ++ ([x, y, z].take (knum k.toNat)).map itoa ++ (if w = 1 then [wIs, itoa n] else if w = 2 then [wFails, itoa n] else [])) c →
    Short T c (-17) ∧ LineP k a m x y z w n (joinS T c (-17)) ∧ slen (joinS T c (-17)) ≤ 200 := fun h => wr_leaf hF hx hy hz hn h
  have ea : a = senc (sdec a) := (senc_sdec a).symm
  have em : m = senc (sdec m) := (senc_sdec m).symm
  refine ⟨by omega, by omega, ?_⟩
  clear hk ha hm hx hy hz hw hn hO hF hk1 hk2
  generalize knum k.toNat = C at *
  generalize kw.getD k.toNat [] = K at *
  repeat' with_reducible first | refine L ?_ | apply And.intro | intro _
  all_goals first
    | omega
    | (first | rw [if_pos (by assumption : a = 0)] | rw [if_neg (by assumption : ¬ a = 0)]
       first | rw [if_pos (by assumption : m = 0)] | rw [if_neg (by assumption : ¬ m = 0)]
       first | rw [if_pos (by assumption : w = 1)] | rw [if_neg (by assumption : ¬ w = 1)]
       (try first | rw [if_pos (by assumption : w = 2)] | rw [if_neg (by assumption : ¬ w = 2)])
       have : C = 0 ∨ C = 1 ∨ C = 2 ∨ C = 3 := by omega
       rcases this with rfl | rfl | rfl | rfl
       all_goals first
         | (exfalso; omega)
         | (refine ⟨rfl, fun r v hr => ?_⟩
            rcases r with _ | _ | _ | _ | _ | _ | _ | _ | r <;> simp at hr <;> subst hr <;> simp [tupd, ← ea, ← em]))
theorem u1_iff {k : Nat} : u1 k = 23 ↔ kar k = 0 := by
  unfold u1; split
  · exact ⟨fun _ => by assumption, fun _ => rfl⟩
  · split <;> exact ⟨fun h => absurd h (by decide), fun h => absurd h (by assumption)⟩
theorem u2_iff {k : Nat} : u2 k = 23 ↔ knm k = 0 := by
  unfold u2; split
  · exact ⟨fun _ => by assumption, fun _ => rfl⟩
  · repeat' split
    all_goals exact ⟨fun h => absurd h (by decide), fun h => absurd h (by assumption)⟩
section
variable {k a m x y z w n u v c : Int}
theorem sr_c (hu : u = u1 k.toNat) (hv : v = u2 k.toNat) (hc : c = (knum k.toNat : Nat)) :
    (C2 (kar k.toNat) (knm k.toNat) (knum k.toNat) a m x y z ↔ (u = 23 ∧ ¬ a = 0) ∨ (v = 23 ∧ ¬ m = 0) ∨ (c < 1 ∧ ¬ x = 0) ∨ (c < 2 ∧ ¬ y = 0) ∨ (c < 3 ∧ ¬ z = 0)) ∧
    (C3 (kar k.toNat) (knm k.toNat) a m ↔ (¬ u = 23 ∧ nameF a = 0) ∨ (¬ v = 23 ∧ nameF m = 0)) := by
  have h1 := @u1_iff k.toNat
  have h2 := @u2_iff k.toNat
  subst hu; subst hv
  unfold C2 C3
  rw [h1, h2, hc]
  constructor
  · omega
  · exact Iff.rfl
theorem sr2 (hu : u = u1 k.toNat) (hv : v = u2 k.toNat) (hc : c = (knum k.toNat : Nat)) (h : (u = 23 ∧ ¬ a = 0) ∨ (v = 23 ∧ ¬ m = 0) ∨ (c < 1 ∧ ¬ x = 0) ∨ (c < 2 ∧ ¬ y = 0) ∨ (c < 3 ∧ ¬ z = 0)) : StepP k a m x y z w n 2 :=
  ((stepE_c rfl rfl rfl a m x y z w n).1 (.inr ((sr_c hu hv hc).1.2 h))).symm
theorem sr6 (hu : u = u1 k.toNat) (hv : v = u2 k.toNat) (hc : c = (knum k.toNat : Nat)) (h1 : ¬ C1 k w n) (h2 : ¬ ((u = 23 ∧ ¬ a = 0) ∨ (v = 23 ∧ ¬ m = 0) ∨ (c < 1 ∧ ¬ x = 0) ∨ (c < 2 ∧ ¬ y = 0) ∨ (c < 3 ∧ ¬ z = 0)))
    (h3 : (¬ u = 23 ∧ nameF a = 0) ∨ (¬ v = 23 ∧ nameF m = 0)) : StepP k a m x y z w n 6 :=
  (((stepE_c rfl rfl rfl a m x y z w n).2 h1 (fun e => h2 ((sr_c hu hv hc).1.1 e))).1 ((sr_c (x := x) (y := y) (z := z) hu hv hc).2.2 h3)).symm
theorem sr7 (hu : u = u1 k.toNat) (hv : v = u2 k.toNat) (hc : c = (knum k.toNat : Nat)) (h1 : ¬ C1 k w n) (h2 : ¬ ((u = 23 ∧ ¬ a = 0) ∨ (v = 23 ∧ ¬ m = 0) ∨ (c < 1 ∧ ¬ x = 0) ∨ (c < 2 ∧ ¬ y = 0) ∨ (c < 3 ∧ ¬ z = 0)))
    (h3 : ¬ ((¬ u = 23 ∧ nameF a = 0) ∨ (¬ v = 23 ∧ nameF m = 0))) (h4 : C4 x y z w n) : StepP k a m x y z w n 7 :=
  ((((stepE_c rfl rfl rfl a m x y z w n).2 h1 (fun e => h2 ((sr_c hu hv hc).1.1 e))).2 (fun e => h3 ((sr_c (x := x) (y := y) (z := z) hu hv hc).2.1 e))).1 h4).symm
theorem sr0 (hu : u = u1 k.toNat) (hv : v = u2 k.toNat) (hc : c = (knum k.toNat : Nat)) (h1 : ¬ C1 k w n) (h2 : ¬ ((u = 23 ∧ ¬ a = 0) ∨ (v = 23 ∧ ¬ m = 0) ∨ (c < 1 ∧ ¬ x = 0) ∨ (c < 2 ∧ ¬ y = 0) ∨ (c < 3 ∧ ¬ z = 0)))
    (h3 : ¬ ((¬ u = 23 ∧ nameF a = 0) ∨ (¬ v = 23 ∧ nameF m = 0))) (h4 : ¬ C4 x y z w n) : StepP k a m x y z w n 0 :=
  ((((stepE_c rfl rfl rfl a m x y z w n).2 h1 (fun e => h2 ((sr_c hu hv hc).1.1 e))).2 (fun e => h3 ((sr_c (x := x) (y := y) (z := z) hu hv hc).2.1 e))).2 h4).symm
theorem sr1 (h : C1 k w n) : StepP k a m x y z w n 2 := ((stepE_c rfl rfl rfl a m x y z w n).1 (.inl h)).symm
end
set_option maxHeartbeats 8000000 in
theorem vStepR : ∀ ds, Sorts cStepR.sorts ds → tStepR.vc (TI N) ds := by
  refine all_i fun k => all_i fun a => all_i fun m => all_i fun x => all_i fun y => all_i fun z => all_i fun w => all_i fun n => all_n ?_
  set_option linter.unusedSimpArgs false in
  simp (config := { maxSteps := 10000000 }) only [tStepR, e1, e57, p60, e67, e70, e71, e125, e127, p128, e129, p130, p131, p132, p133, p134, p135, q136, e137, e138, e139, e140, e146, e147, e148, q158, e159, e160, q161, q162, q165, e168, e169, e417, e424, e425, e426, e427, e428, e429, e430, q431, q432, q433, q434, q435, q436, q437, q438, q439, q440, q441, q442, q443, Tree.vc, PE.den, E.den, dens, BO.ev, List.getElem?_cons_zero, List.getElem?_cons_succ, List.cons_append, List.nil_append, Option.some.injEq, D.i.injEq, D.t.injEq, exists_eq_left', exists_const, forall_const, forall_eq', one_ne, one_eq, zero_ne, zero_eq, min_i64, max_i64, min_u8, max_u8, and_true, true_and, Decidable.not_not, S3, S5, S6, S7, S8, S9, S10, S11, S12, S20, S1000, S1001, S1002, S1003, S1004, S1005, S1010, S1011, P10, P11, P12, P13, P14, P15, P16, P17, P20, P21, P22, P30, P31, P32, P33, P34, P35, P36, P37, P38, S13, S14, S15, S1008, S1009, P23, P40, P41, P42, P43, P44, P45, P46, P47, P48, P49, P50, P51, P52, P53, P54, P55, P56, P57, P58, P59, P60, P61, P62, P63, P64, P65, P66, P67, P68, P69, P70, P71, P72, P80, P73, P74, P81, P82, P83, P84]
  intro hk ha hm hx hy hz hw hn
  clear hk ha hm hx hy hz hw hn
  refine ⟨fun h => sr1 (.inl h), fun h1 f _ => ⟨fun h => sr1 (.inr (.inl (by omega))), fun h2 => ⟨fun h => sr1 (.inr (.inr (.inl h))), fun h3 => ⟨fun h => sr1 (.inr (.inr (.inr (.inl h)))), fun h4 => ?_⟩⟩⟩⟩
  refine ⟨fun h5 => ⟨fun h => sr1 (.inr (.inr (.inr (.inr ⟨h5, h⟩)))), fun h6 f hf => ?_⟩, fun h5 f hf => ?_⟩
  all_goals
    have hC : ¬ C1 k w n := by unfold C1; omega
    have hf := hf k.toNat (by omega) (by omega)
    rw [show ((k.toNat : Nat) : Int) = k by omega] at hf
    obtain ⟨_, hu, hv, hc⟩ := hf
    have hk0 : 0 ≤ k := by omega
    clear h1 h2 h3 h4
    generalize f k 1 = u at hu ⊢
    generalize f k 2 = v at hv ⊢
    generalize f k 3 = c at hc ⊢
    refine ⟨hk0, ?_⟩
    clear hk0
    repeat' with_reducible first | apply And.intro | intro _
    all_goals first
      | exact sr2 hu hv hc (by clear hu hv hc hC; omega)
      | exact sr6 hu hv hc hC (by clear hu hv hc hC; omega) (by clear hu hv hc hC; omega)
      | exact sr7 hu hv hc hC (by clear hu hv hc hC; omega) (by clear hu hv hc hC; omega) (by clear hu hv hc hC; unfold C4; omega)
      | exact sr0 hu hv hc hC (by clear hu hv hc hC; omega) (by clear hu hv hc hC; omega) (by clear hu hv hc hC; unfold C4; omega)
end Go.Tt
namespace Go.Tt
open Go Go.Sx Go.Lib Go.Sf
variable {N : Nat}
theorem vLine : ∀ ds, Sorts (cLine 9).sorts ds → tLine.vc (TI N) ds := by
  refine all_i fun k => all_i fun a => all_i fun m => all_i fun x => all_i fun y => all_i fun z => all_i fun w => all_i fun n => all_n ?_
  set_option linter.unusedSimpArgs false in
  simp (config := { maxSteps := 10000000 }) only [tLine, e1, e46, e57, e58, p60, e94, p128, e129, p130, p131, p132, p133, p134, p135, p173, e368, Tree.vc, PE.den, E.den, dens, BO.ev, List.getElem?_cons_zero, List.getElem?_cons_succ, List.cons_append, List.nil_append, Option.some.injEq, D.i.injEq, D.t.injEq, exists_eq_left', exists_const, forall_const, forall_eq', one_ne, one_eq, zero_ne, zero_eq, min_i64, max_i64, min_u8, max_u8, and_true, true_and, Decidable.not_not, S3, S5, S6, S7, S8, S9, S10, S11, S12, S20, S1000, S1001, S1002, S1003, S1004, S1005, S1010, S1011, P10, P11, P12, P13, P14, P15, P16, P17, P20, P21, P22, P30, P31, P32, P33, P34, P35, P36, P37, P38, S13, S14, S15, S1008, S1009, P23, P40, P41, P42, P43, P44, P45, P46, P47, P48, P49, P50, P51, P52, P53, P54, P55, P56, P57, P58, P59, P60, P61, P62, P63, P64, P65, P66, P67, P68, P69, P70, P71, P72, P80, P73, P74, P81, P82, P83, P84]
  intro hk ha hm hx hy hz hw hn e he
  refine ⟨fun h => ⟨by rw [slen_0]; omega, he, fun h0 => absurd h0 h, fun _ => rfl⟩, fun h => ?_⟩
  subst h
  exact ⟨he.symm, fun s hs hl => ⟨he, fun _ => hs he.symm, fun h0 => absurd rfl h0⟩⟩
section
variable {s k a m x y z w n b e : Int}
theorem pl_none (h : ∀ t : Sp, t.Norm → t.NB → sdec s ≠ t.line) : PLineP s 0 0 0 0 0 0 0 0 6 := .inr ⟨fun t ht => h t ht.1 ht.2.1 ht.2.2, rfl, rfl, rfl, rfl, rfl, rfl, rfl, rfl, rfl⟩
theorem raw_step (h : RawP s k a m x y z w n b) (hb : ¬ b = 0) (he : StepP k a m x y z w n e) : LineOf s (stp k a m x y z w n) ∧ 0 ≤ k ∧
    e = stepE (stp k a m x y z w n).k (stp k a m x y z w n).a (stp k a m x y z w n).m (stp k a m x y z w n).x (stp k a m x y z w n).y (stp k a m x y z w n).z (stp k a m x y z w n).w (stp k a m x y z w n).n := by
  rcases h with ⟨_, h0, h1, h2, h3⟩ | ⟨h, _⟩
  · refine ⟨⟨h1, h2, h3⟩, h0, ?_⟩
    have : ((stp k a m x y z w n).k : Int) = k := Int.toNat_of_nonneg h0
    rw [this]
    exact he
  · exact absurd h hb
theorem pl_err (h : RawP s k a m x y z w n b) (hb : ¬ b = 0) (he : StepP k a m x y z w n e) (h0 : ¬ e = 0) : PLineP s 0 0 0 0 0 0 0 0 e := by
  obtain ⟨h1, _, h3⟩ := raw_step h hb he
  exact .inl ⟨_, h1, h3, fun h => absurd h h0, fun _ => ⟨rfl, rfl, rfl, rfl, rfl, rfl, rfl, rfl⟩⟩
theorem pl_ok (h : RawP s k a m x y z w n b) (hb : ¬ b = 0) (he : StepP k a m x y z w n 0) : PLineP s k a m x y z w n 0 := by
  obtain ⟨h1, h2, h3⟩ := raw_step h hb he
  exact .inl ⟨_, h1, h3, fun _ => ⟨h2, rfl⟩, fun h => absurd rfl h⟩
end
theorem vPLine : ∀ ds, Sorts (cPLine 7).sorts ds → tPLine.vc (TI N) ds := by
  refine all_i fun s => all_n ?_
  set_option linter.unusedSimpArgs false in
  simp (config := { maxSteps := 10000000 }) only [tPLine, e0, e1, p2, e46, e63, e85, e89, p107, e129, p130, p132, p133, p134, p135, p365, p369, Tree.vc, PE.den, E.den, dens, BO.ev, List.getElem?_cons_zero, List.getElem?_cons_succ, List.cons_append, List.nil_append, Option.some.injEq, D.i.injEq, D.t.injEq, exists_eq_left', exists_const, forall_const, forall_eq', one_ne, one_eq, zero_ne, zero_eq, min_i64, max_i64, min_u8, max_u8, and_true, true_and, Decidable.not_not, S3, S5, S6, S7, S8, S9, S10, S11, S12, S20, S1000, S1001, S1002, S1003, S1004, S1005, S1010, S1011, P10, P11, P12, P13, P14, P15, P16, P17, P20, P21, P22, P30, P31, P32, P33, P34, P35, P36, P37, P38, S13, S14, S15, S1008, S1009, P23, P40, P41, P42, P43, P44, P45, P46, P47, P48, P49, P50, P51, P52, P53, P54, P55, P56, P57, P58, P59, P60, P61, P62, P63, P64, P65, P66, P67, P68, P69, P70, P71, P72, P80, P73, P74, P81, P82, P83, P84]
  intro hs k a m x y z w n b hk ha hm hx hy hz hw hn hR
  have h00 : slen 0 ≤ 100000 := by rw [slen_0]; omega
  refine ⟨fun h => ⟨h00, ?_⟩, fun h e he => ⟨fun h0 => ⟨h00, pl_err hR h he h0⟩, fun h0 => ?_⟩⟩
  · rcases hR with ⟨hb, _⟩ | ⟨_, hh⟩
    · exact absurd h hb
    · exact pl_none hh
  · subst h0; exact pl_ok hR h he
theorem vRPLine : ∀ ds, Sorts (cPLine 8).sorts ds → tRPLine.vc (TI N) ds := by
  refine all_i fun s => all_n ?_
  set_option linter.unusedSimpArgs false in
  simp (config := { maxSteps := 10000000 }) only [tRPLine, e0, e1, p2, e46, e63, e85, e89, p107, e129, p130, p132, p133, p134, p135, p365, p369, Tree.vc, PE.den, E.den, dens, BO.ev, List.getElem?_cons_zero, List.getElem?_cons_succ, List.cons_append, List.nil_append, Option.some.injEq, D.i.injEq, D.t.injEq, exists_eq_left', exists_const, forall_const, forall_eq', one_ne, one_eq, zero_ne, zero_eq, min_i64, max_i64, min_u8, max_u8, and_true, true_and, Decidable.not_not, S3, S5, S6, S7, S8, S9, S10, S11, S12, S20, S1000, S1001, S1002, S1003, S1004, S1005, S1010, S1011, P10, P11, P12, P13, P14, P15, P16, P17, P20, P21, P22, P30, P31, P32, P33, P34, P35, P36, P37, P38, S13, S14, S15, S1008, S1009, P23, P40, P41, P42, P43, P44, P45, P46, P47, P48, P49, P50, P51, P52, P53, P54, P55, P56, P57, P58, P59, P60, P61, P62, P63, P64, P65, P66, P67, P68, P69, P70, P71, P72, P80, P73, P74, P81, P82, P83, P84]
  intro hs k a m x y z w n b hk ha hm hx hy hz hw hn hR
  have h00 : slen 0 ≤ 100000 := by rw [slen_0]; omega
  refine ⟨fun h => ⟨h00, ?_⟩, fun h e he => ⟨fun h0 => ⟨h00, pl_err hR h he h0⟩, fun h0 => ?_⟩⟩
  · rcases hR with ⟨hb, _⟩ | ⟨_, hh⟩
    · exact absurd h hb
    · exact pl_none hh
  · subst h0; exact pl_ok hR h he
theorem vLns : ∀ ds, Sorts cLns.sorts ds → tLns.vc (TI N) ds := by
  refine all_i fun k => all_i fun a => all_i fun m => all_i fun x => all_i fun y => all_i fun z => all_i fun w => all_i fun n => all_i fun s => all_n ?_
  set_option linter.unusedSimpArgs false in
  simp (config := { maxSteps := 10000000 }) only [tLns, e1, e57, e58, p60, e83, p87, p117, p128, e129, p130, p131, p132, p133, p134, p135, p310, p317, p358, p360, p493, e586, e587, e588, p589, e590, q591, e592, p593, Tree.vc, PE.den, E.den, dens, BO.ev, List.getElem?_cons_zero, List.getElem?_cons_succ, List.cons_append, List.nil_append, Option.some.injEq, D.i.injEq, D.t.injEq, exists_eq_left', exists_const, forall_const, forall_eq', one_ne, one_eq, zero_ne, zero_eq, min_i64, max_i64, min_u8, max_u8, and_true, true_and, Decidable.not_not, S3, S5, S6, S7, S8, S9, S10, S11, S12, S20, S1000, S1001, S1002, S1003, S1004, S1005, S1010, S1011, P10, P11, P12, P13, P14, P15, P16, P17, P20, P21, P22, P30, P31, P32, P33, P34, P35, P36, P37, P38, S13, S14, S15, S1008, S1009, P23, P40, P41, P42, P43, P44, P45, P46, P47, P48, P49, P50, P51, P52, P53, P54, P55, P56, P57, P58, P59, P60, P61, P62, P63, P64, P65, P66, P67, P68, P69, P70, P71, P72, P80, P73, P74, P81, P82, P83, P84]
  intro hk hx hy hz hw hn
  refine ⟨fun _ => trivial, fun h1 => ⟨fun _ => trivial, fun h2 => ⟨fun _ => trivial, fun h3 => ⟨by omega, fun k1 a1 m1 x1 y1 z1 w1 n1 e1 _ _ _ _ _ _ _ _ p1 k2 a2 m2 x2 y2 z2 w2 n2 e2 _ _ _ _ _ _ _ _ p2 => ?_⟩⟩⟩⟩
  obtain ⟨⟨u1, u2, u3, u4, u5, u6, u7, u8⟩, u9⟩ := pline_uniq p1 p2
  refine ⟨fun h => h ⟨u1, u2, u3, u4, u5, u6, u7, u8, by decide⟩, fun _ => ⟨fun h => h u9, fun _ => ⟨by omega, by omega, fun s' e' hs' hL => ⟨fun _ => trivial, fun he => ⟨by omega, fun k3 a3 m3 x3 y3 z3 w3 n3 e3 _ _ _ _ _ _ _ _ p3 => ?_⟩⟩⟩⟩⟩
  subst he
  obtain ⟨b0, b1, b2, b3, b4, b5, b6, b7, b8⟩ := pline_back hn hL p3
  exact ⟨fun _ => ⟨fun _ => trivial, fun h => h ⟨b1, b2, b3, b4, b5, b6, b7, b8, by decide⟩⟩, fun h => h b0⟩
end Go.Tt
