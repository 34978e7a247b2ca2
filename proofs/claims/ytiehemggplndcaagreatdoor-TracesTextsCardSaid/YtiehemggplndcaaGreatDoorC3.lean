/-
  The formulas of the contracts hold: the errors of steps. Conditions: none; nothing here speaks of a program.
-/
import Derived.Test.YtiehemggplndcaaGreatDoorC2
import Derived.Test.YtiehemggplndcaaGreatDoorC1
namespace Go.Tt
open Go Go.Sx Go.Lib Go.Sf
variable {N : Nat}
theorem nameF_iff {a : Int} : nameF a = 0 ↔ ¬ NameP (sdec a) := by
  unfold nameF
  by_cases h : NameP (sdec a)
  · rw [if_pos h]; exact ⟨(fun h => by cases h), fun h2 => absurd h h2⟩
  · rw [if_neg h]; exact ⟨fun _ => h, fun _ => rfl⟩
section
variable {k : Int} {A B C : Nat}
def C1 (k w n : Int) : Prop := k < 1 ∨ 13 < k ∨ w < 0 ∨ 2 < w ∨ (w = 0 ∧ n ≠ 0)
def C2 (A B C : Nat) (a m x y z : Int) : Prop := (A = 0 ∧ a ≠ 0) ∨ (B = 0 ∧ m ≠ 0) ∨ (C < 1 ∧ x ≠ 0) ∨ (C < 2 ∧ y ≠ 0) ∨ (C < 3 ∧ z ≠ 0)
def C3 (A B : Nat) (a m : Int) : Prop := (A ≠ 0 ∧ nameF a = 0) ∨ (B ≠ 0 ∧ nameF m = 0)
def C4 (x y z w n : Int) : Prop := (x < -1000000000000 ∨ 1000000000000 < x) ∨ (y < -1000000000000 ∨ 1000000000000 < y) ∨ (z < -1000000000000 ∨ 1000000000000 < z) ∨ (w = 1 ∧ (n < -1000000000000 ∨ 1000000000000 < n)) ∨ (w = 2 ∧ (n < 1 ∨ 999 < n))
theorem stepE_c (hA : kar k.toNat = A) (hB : knm k.toNat = B) (hC : knum k.toNat = C) (a m x y z w n : Int) :
    ((C1 k w n ∨ C2 A B C a m x y z) → stepE k (sdec a) (sdec m) x y z w n = 2) ∧ (¬ C1 k w n → ¬ C2 A B C a m x y z → (C3 A B a m → stepE k (sdec a) (sdec m) x y z w n = 6) ∧ (¬ C3 A B a m → (C4 x y z w n → stepE k (sdec a) (sdec m) x y z w n = 7) ∧ (¬ C4 x y z w n → stepE k (sdec a) (sdec m) x y z w n = 0))) := by
  subst hA; subst hB; subst hC
  unfold stepE
  have h2 : ((kar k.toNat = 0 ∧ sdec a ≠ []) ∨ (knm k.toNat = 0 ∧ sdec m ≠ []) ∨ (knum k.toNat < 1 ∧ x ≠ 0) ∨ (knum k.toNat < 2 ∧ y ≠ 0) ∨ (knum k.toNat < 3 ∧ z ≠ 0)) ↔ C2 (kar k.toNat) (knm k.toNat) (knum k.toNat) a m x y z := by
    unfold C2; rw [sdec_ne, sdec_ne]
  have h3 : ((kar k.toNat ≠ 0 ∧ ¬ NameP (sdec a)) ∨ (knm k.toNat ≠ 0 ∧ ¬ NameP (sdec m))) ↔ C3 (kar k.toNat) (knm k.toNat) a m := by
    unfold C3; rw [nameF_iff, nameF_iff]
  have h4 : (Big x ∨ Big y ∨ Big z ∨ (w = 1 ∧ Big n) ∨ (w = 2 ∧ (n < 1 ∨ 999 < n))) ↔ C4 x y z w n := Iff.rfl
  have h1 : (k < 1 ∨ 13 < k ∨ w < 0 ∨ 2 < w ∨ (w = 0 ∧ n ≠ 0)) ↔ C1 k w n := Iff.rfl
  refine ⟨fun h => ?_, fun g1 g2 => ⟨fun g3 => ?_, fun g3 => ⟨fun g4 => ?_, fun g4 => ?_⟩⟩⟩
  · by_cases hh : C1 k w n
    · rw [if_pos (h1.2 hh)]
    · rw [if_neg (fun e => hh (h1.1 e)), if_pos (h2.2 (h.resolve_left hh))]
  · rw [if_neg (fun e => g1 (h1.1 e)), if_neg (fun e => g2 (h2.1 e)), if_pos (h3.2 g3)]
  · rw [if_neg (fun e => g1 (h1.1 e)), if_neg (fun e => g2 (h2.1 e)), if_neg (fun e => g3 (h3.1 e)), if_pos (h4.2 g4)]
  · rw [if_neg (fun e => g1 (h1.1 e)), if_neg (fun e => g2 (h2.1 e)), if_neg (fun e => g3 (h3.1 e)), if_neg (fun e => g4 (h4.1 e))]
theorem sE2 (hA : kar k.toNat = A) (hB : knm k.toNat = B) (hC : knum k.toNat = C) (a m x y z w n : Int) (h : (k < 1 ∨ 13 < k ∨ w < 0 ∨ 2 < w ∨ (w = 0 ∧ n ≠ 0)) ∨ (A = 0 ∧ a ≠ 0) ∨ (B = 0 ∧ m ≠ 0) ∨ (C < 1 ∧ x ≠ 0) ∨ (C < 2 ∧ y ≠ 0) ∨ (C < 3 ∧ z ≠ 0)) : StepP k a m x y z w n 2 :=
  ((stepE_c hA hB hC a m x y z w n).1 h).symm
end
theorem any_rest {T : Tb} {lo i n : Int} (h : AnyI T lo i) (hn : ¬ i < n) : AnyP T lo n 0 := by
  refine ⟨fun h => absurd rfl h, fun ⟨j, h1, h2, h3⟩ => absurd (h j h1 (by omega)) h3⟩
theorem big_rest {T : Tb} {lo i n : Int} (h : BigI T lo i) (hn : ¬ i < n) : BigA T lo n 0 := by
  refine ⟨fun h => absurd rfl h, fun ⟨j, h1, h2, h3⟩ => absurd h3 (h j h1 (by omega))⟩
theorem shp_tail {k a m x y z w n : Int} {A B C : Nat} (hA : kar k.toNat = A) (hB : knm k.toNat = B) (hC : knum k.toNat = C) (hk1 : 1 ≤ k) (hk2 : k ≤ 13) (hw : 0 ≤ w) (hw2 : w ≤ 2) (hn : w = 0 → n = 0) :
    ∃ P Q : Prop, (∀ b : Int, AnyP (T3 x y z) (C : Int) (3 - C) b → (b = 0 ↔ ¬ P)) ∧ (∀ b : Int, BigA (T3 x y z) 0 3 b → (b = 0 ↔ ¬ Q)) ∧
    ((((A : Int) = 0 ∧ ¬ a = 0) ∨ ((B : Int) = 0 ∧ ¬ m = 0) ∨ P → StepP k a m x y z w n 2) ∧
    (((A : Int) = 0 → a = 0) → ((B : Int) = 0 → m = 0) → ¬ P → ((¬ (A : Int) = 0 ∧ nameF a = 0) ∨ (¬ (B : Int) = 0 ∧ nameF m = 0) → StepP k a m x y z w n 6) ∧
      (((A : Int) = 0 ∨ ¬ nameF a = 0) → ((B : Int) = 0 ∨ ¬ nameF m = 0) → (Q ∨ (w = 1 ∧ (n < -1000000000000 ∨ 1000000000000 < n)) ∨ (w = 2 ∧ (n < 1 ∨ 999 < n)) → StepP k a m x y z w n 7) ∧
        (¬ Q → (w = 1 → ¬ n < -1000000000000 ∧ ¬ 1000000000000 < n) → (w = 2 → ¬ n < 1 ∧ ¬ 999 < n) → StepP k a m x y z w n 0)))) := by
  have hc : C ≤ 3 := by rw [← hC]; exact knum_le _
  have hE := stepE_c hA hB hC a m x y z w n
  have g1 : ¬ C1 k w n := by unfold C1; omega
  refine ⟨((C < 1 ∧ x ≠ 0) ∨ (C < 2 ∧ y ≠ 0) ∨ (C < 3 ∧ z ≠ 0)), (Big x ∨ Big y ∨ Big z), fun b h => ?_, fun b h => ?_, fun h => ?_, fun ha hm hp => ⟨fun h => ?_, fun ha' hm' => ⟨fun h => ?_, fun hq h1 h2 => ?_⟩⟩⟩
  · have := any3 h (by omega)
    constructor
    · rintro rfl h2
      exact this.2 (by omega) rfl
    · intro h2
      exact Classical.byContradiction fun hb => h2 (by have := this.1 hb; omega)
  · have := big3 h
    constructor
    · rintro rfl h2
      exact this.2 h2 rfl
    · intro h2
      exact Classical.byContradiction fun hb => h2 (this.1 hb)
  · exact (hE.1 (.inr (by unfold C2; omega))).symm
  all_goals
    have g2 : ¬ C2 A B C a m x y z := by unfold C2; omega
  · exact ((hE.2 g1 g2).1 (by unfold C3; omega)).symm
  all_goals
    have g3 : ¬ C3 A B a m := by unfold C3; omega
  · refine (((hE.2 g1 g2).2 g3).1 ?_).symm
    unfold C4
    rcases h with (h | h | h) | h | h
    · exact .inl h
    · exact .inr (.inl h)
    · exact .inr (.inr (.inl h))
    · exact .inr (.inr (.inr (.inl h)))
    · exact .inr (.inr (.inr (.inr h)))
  · refine (((hE.2 g1 g2).2 g3).2 ?_).symm
    unfold C4
    rintro (h | h | h | ⟨h, h3⟩ | ⟨h, h3⟩)
    · exact hq (.inl h)
    · exact hq (.inr (.inl h))
    · exact hq (.inr (.inr h))
    · have := h1 h; omega
    · have := h2 h; omega
theorem vAny : ∀ ds, Sorts (cAny 54 81).sorts ds → tAny.vc (TI N) ds := by
  refine all_t fun T => all_i fun m => all_i fun lo => all_i fun n => all_n ?_
  set_option linter.unusedSimpArgs false in
  simp (config := { maxSteps := 10000000 }) only [tAny, p6, e34, p80, e90, p92, p118, p119, p120, e121, e122, p123, q124, Tree.vc, PE.den, E.den, dens, BO.ev, List.getElem?_cons_zero, List.getElem?_cons_succ, List.cons_append, List.nil_append, Option.some.injEq, D.i.injEq, D.t.injEq, exists_eq_left', exists_const, forall_const, forall_eq', one_ne, one_eq, zero_ne, zero_eq, min_i64, max_i64, min_u8, max_u8, and_true, true_and, Decidable.not_not, S3, S5, S6, S7, S8, S9, S10, S11, S12, S20, S1000, S1001, S1002, S1003, S1004, S1005, S1010, S1011, P10, P11, P12, P13, P14, P15, P16, P17, P20, P21, P22, P30, P31, P32, P33, P34, P35, P36, P37, P38, S13, S14, S15, S1008, S1009, P23, P40, P41, P42, P43, P44, P45, P46, P47, P48, P49, P50, P51, P52, P53, P54, P55, P56, P57, P58, P59, P60, P61, P62, P63, P64, P65, P66, P67, P68, P69, P70, P71, P72, P80, P73, P74, P81, P82, P83, P84]
  intro h0 h1 h2 h3
  refine ⟨fun j g1 g2 => by omega, fun i i0 i1 hI => ⟨fun hi => ⟨by omega, by omega, fun hT => ?_, fun hT => ⟨by omega, by omega, by omega, fun j g1 g2 => ?_, by omega, by omega⟩⟩, fun hi => any_rest hI hi⟩⟩
  · rw [if_pos i0]
    exact ⟨fun _ => ⟨lo + i, by omega, by omega, hT⟩, fun _ => by decide⟩
  · by_cases e : j = lo + i
    · rw [e]; exact hT
    · exact hI j g1 (by omega)
theorem vBig : ∀ ds, Sorts (cAny 55 82).sorts ds → tBig.vc (TI N) ds := by
  refine all_t fun T => all_i fun m => all_i fun lo => all_i fun n => all_n ?_
  set_option linter.unusedSimpArgs false in
  simp (config := { maxSteps := 10000000 }) only [tBig, p6, e34, p80, e90, p92, p118, p119, p120, e121, e122, p123, q124, e125, q126, e127, Tree.vc, PE.den, E.den, dens, BO.ev, List.getElem?_cons_zero, List.getElem?_cons_succ, List.cons_append, List.nil_append, Option.some.injEq, D.i.injEq, D.t.injEq, exists_eq_left', exists_const, forall_const, forall_eq', one_ne, one_eq, zero_ne, zero_eq, min_i64, max_i64, min_u8, max_u8, and_true, true_and, Decidable.not_not, S3, S5, S6, S7, S8, S9, S10, S11, S12, S20, S1000, S1001, S1002, S1003, S1004, S1005, S1010, S1011, P10, P11, P12, P13, P14, P15, P16, P17, P20, P21, P22, P30, P31, P32, P33, P34, P35, P36, P37, P38, S13, S14, S15, S1008, S1009, P23, P40, P41, P42, P43, P44, P45, P46, P47, P48, P49, P50, P51, P52, P53, P54, P55, P56, P57, P58, P59, P60, P61, P62, P63, P64, P65, P66, P67, P68, P69, P70, P71, P72, P80, P73, P74, P81, P82, P83, P84]
  intro h0 h1 h2 h3
  refine ⟨fun j g1 g2 => by omega, fun i i0 i1 hI => ⟨fun hi => ⟨by omega, by omega, fun hT => ?_, fun hT => ⟨fun hT2 => ?_, fun hT2 => ⟨by omega, by omega, by omega, fun j g1 g2 => ?_, by omega, by omega⟩⟩⟩, fun hi => big_rest hI hi⟩⟩
  · rw [if_pos i0]
    exact ⟨fun _ => ⟨lo + i, by omega, by omega, .inl hT⟩, fun _ => by decide⟩
  · rw [if_pos i0]
    exact ⟨fun _ => ⟨lo + i, by omega, by omega, .inr hT2⟩, fun _ => by decide⟩
  · by_cases e : j = lo + i
    · rw [e]; exact fun h => h.elim hT hT2
    · exact hI j g1 (by omega)
end Go.Tt
namespace Go.Tt
open Go Go.Sx Go.Lib Go.Sf
variable {N : Nat}
theorem joinW_mem : ∀ {ws : List (List UInt8)} {w : List UInt8}, w ∈ ws → w.length ≤ (joinW ws).length
  | [], w, h => by cases h
  | v :: l, w, h => by
    rw [joinW_cons, List.length_append]
    rcases List.mem_cons.1 h with rfl | h
    · omega
    · have := joinW_mem h
      rw [if_neg (fun e => by subst e; cases h), List.length_cons]
      omega
theorem wr_leaf {k a m x y z w n : Int} (hF : OkF k a m x y z w n) (hx : I64 x) (hy : I64 y) (hz : I64 z) (hn : I64 n) {T : Tb} {c : Int}
    (hT : RowsS T ([kw.getD k.toNat []] ++ (if a = 0 then [] else [sdec a]) ++ (if m = 0 then [] else [sdec m]) ++ ([x, y, z].take (knum k.toNat)).map itoa ++ (if w = 1 then [wIs, itoa n] else if w = 2 then [wFails, itoa n] else [])) c) :
    Short T c (-17) ∧ LineP k a m x y z w n (joinS T c (-17)) ∧ slen (joinS T c (-17)) ≤ 200 := by
  have hA : (a ≠ 0 ∧ (if a = 0 then [] else [sdec a]) = [sdec a]) ∨ (a = 0 ∧ (if a = 0 then [] else [sdec a]) = []) := by
    by_cases h : a = 0
    · exact .inr ⟨h, if_pos h⟩
    · exact .inl ⟨h, if_neg h⟩
  have hM : (m ≠ 0 ∧ (if m = 0 then [] else [sdec m]) = [sdec m]) ∨ (m = 0 ∧ (if m = 0 then [] else [sdec m]) = []) := by
    by_cases h : m = 0
    · exact .inr ⟨h, if_pos h⟩
    · exact .inl ⟨h, if_neg h⟩
  have hV : (w = 1 ∧ (if w = 1 then [wIs, itoa n] else if w = 2 then [wFails, itoa n] else []) = [wIs, itoa n]) ∨ (w = 2 ∧ (if w = 1 then [wIs, itoa n] else if w = 2 then [wFails, itoa n] else []) = [wFails, itoa n]) ∨ (w ≠ 1 ∧ w ≠ 2 ∧ (if w = 1 then [wIs, itoa n] else if w = 2 then [wFails, itoa n] else []) = []) := by
    by_cases h : w = 1
    · exact .inl ⟨h, if_pos h⟩
    · by_cases h2 : w = 2
      · exact .inr (.inl ⟨h2, by rw [if_neg h, if_pos h2]⟩)
      · exact .inr (.inr ⟨h, h2, by rw [if_neg h, if_neg h2]⟩)
  have e := line_of hF hA hM rfl hV hT
  have ew := wd_eq hF hA hM rfl hV
  have hl := line_short hF hx hy hz hn
  rw [← ew] at hT
  have h8 := wd_len (stp k a m x y z w n)
  refine ⟨short_rows hT (by omega) fun v hv => Nat.le_trans (joinW_mem hv) (by show (stp k a m x y z w n).line.length ≤ 1000; omega), fun _ => e, ?_⟩
  rw [e, slen_senc]
  omega
theorem kc' {k : Int} (h1 : 1 ≤ k) (h2 : k ≤ 13) : kcode k.toNat = senc (kw.getD k.toNat []) := kcw h1 h2
theorem eIs : (14901 : Int) = senc wIs := by decide
theorem eFails : (-250025947444 : Int) = senc wFails := by decide
section
variable {k a m x y z w n u v c : Int}
end
end Go.Tt
namespace Go.Tt
open Go Go.Sx Go.Lib Go.Sf
variable {N : Nat}
theorem same_no {L A K L' A' K' n n' : Int} {T T' : Tb} (h : ¬ (L = L' ∧ A = A' ∧ K = K' ∧ n = n' ∧ ∀ r : Nat, (r : Int) < n → ∀ c < 8, T r c = T' r c)) : SameP L A K T n L' A' K' T' n' 0 := ⟨fun h0 => absurd rfl h0, fun h1 => absurd h1 h⟩
theorem lt8 {c : Nat} (h : c < 8) : c = 0 ∨ c = 1 ∨ c = 2 ∨ c = 3 ∨ c = 4 ∨ c = 5 ∨ c = 6 ∨ c = 7 := by omega
theorem vSame : ∀ ds, Sorts cSame.sorts ds → tSame.vc (TI N) ds := by
  refine all_i fun L => all_i fun A => all_i fun K => all_t fun T => all_i fun n => all_i fun L' => all_i fun A' => all_i fun K' => all_t fun T' => all_i fun n' => all_n ?_
  set_option linter.unusedSimpArgs false in
  simp (config := { maxSteps := 10000000 }) only [tSame, e11, p80, p128, p133, p134, p135, p306, p307, p369, p762, p763, p764, q829, p830, e831, e832, e833, e834, e835, e836, e837, e838, e839, q840, Tree.vc, PE.den, E.den, dens, BO.ev, List.getElem?_cons_zero, List.getElem?_cons_succ, List.cons_append, List.nil_append, Option.some.injEq, D.i.injEq, D.t.injEq, exists_eq_left', exists_const, forall_const, forall_eq', one_ne, one_eq, zero_ne, zero_eq, min_i64, max_i64, min_u8, max_u8, and_true, true_and, Decidable.not_not, S3, S5, S6, S7, S8, S9, S10, S11, S12, S20, S1000, S1001, S1002, S1003, S1004, S1005, S1010, S1011, P10, P11, P12, P13, P14, P15, P16, P17, P20, P21, P22, P30, P31, P32, P33, P34, P35, P36, P37, P38, S13, S14, S15, S1008, S1009, P23, P40, P41, P42, P43, P44, P45, P46, P47, P48, P49, P50, P51, P52, P53, P54, P55, P56, P57, P58, P59, P60, P61, P62, P63, P64, P65, P66, P67, P68, P69, P70, P71, P72, P80, P73, P74, P81, P82, P83, P84]
  intro h0 hb _ _ _ _ h0' hb' _ _ _ _
  refine ⟨fun h => same_no fun g => h g.1, fun e1 => ⟨fun h => same_no fun g => h g.2.1, fun e2 => ⟨fun h => same_no fun g => h g.2.2.1, fun e3 => ⟨fun h => same_no fun g => h g.2.2.2.1, fun e4 => ⟨fun r hr => by omega, fun i i0 i1 i2 hI => ⟨fun hi => ⟨by omega, fun h => same_no fun g => h ?_, fun h => ⟨by omega, by omega, by omega, by omega, fun r hr c hc => ?_, by omega, by omega⟩⟩, fun hi => ?_⟩⟩⟩⟩⟩⟩
  · have g := g.2.2.2.2 i.toNat (by omega)
    rw [show ((i.toNat : Nat) : Int) = i by omega] at g
    exact ⟨g 0 (by decide), g 1 (by decide), g 2 (by decide), g 3 (by decide), g 4 (by decide), g 5 (by decide), g 6 (by decide), g 7 (by decide), by decide⟩
  · by_cases e : (r : Int) = i
    · rw [e]
      obtain ⟨g0, g1, g2, g3, g4, g5, g6, g7, _⟩ := h
      rcases lt8 hc with rfl | rfl | rfl | rfl | rfl | rfl | rfl | rfl <;> assumption
    · exact hI r (by omega) c hc
  · exact ⟨fun _ => ⟨e1, e2, e3, e4, fun r hr => hI r (by omega)⟩, fun _ => by decide⟩
theorem far_1 {T : Tb} {n : Int} : FarP T n 1 := fun h => absurd h (by decide)
theorem vFar : ∀ ds, Sorts cFar.sorts ds → tFar.vc (TI N) ds := by
  refine all_i fun L => all_i fun A => all_i fun K => all_t fun T => all_i fun n => all_n ?_
  set_option linter.unusedSimpArgs false in
  simp (config := { maxSteps := 10000000 }) only [tFar, p80, e99, p100, p101, p132, p304, e586, e587, p769, e770, e772, e773, p782, q788, q841, e842, e843, q844, Tree.vc, PE.den, E.den, dens, BO.ev, List.getElem?_cons_zero, List.getElem?_cons_succ, List.cons_append, List.nil_append, Option.some.injEq, D.i.injEq, D.t.injEq, exists_eq_left', exists_const, forall_const, forall_eq', one_ne, one_eq, zero_ne, zero_eq, min_i64, max_i64, min_u8, max_u8, and_true, true_and, Decidable.not_not, S3, S5, S6, S7, S8, S9, S10, S11, S12, S20, S1000, S1001, S1002, S1003, S1004, S1005, S1010, S1011, P10, P11, P12, P13, P14, P15, P16, P17, P20, P21, P22, P30, P31, P32, P33, P34, P35, P36, P37, P38, S13, S14, S15, S1008, S1009, P23, P40, P41, P42, P43, P44, P45, P46, P47, P48, P49, P50, P51, P52, P53, P54, P55, P56, P57, P58, P59, P60, P61, P62, P63, P64, P65, P66, P67, P68, P69, P70, P71, P72, P80, P73, P74, P81, P82, P83, P84]
  intro h0 hn
  have key : (n ≤ 60 ∨ 500 < n) → n ≤ 600 → (FarI T 0 ∧ ∀ i : Int, 0 ≤ i → i ≤ n → FarI T i → (i < n → (100 < slen (T i 1) → FarP T n 1) ∧ (¬100 < slen (T i 1) → (100 < slen (T i 2) → FarP T n 1) ∧ (¬100 < slen (T i 2) → (-9223372036854775808 ≤ i + 1 ∧ i + 1 ≤ 9223372036854775807) ∧ 0 ≤ i + 1 ∧ i + 1 ≤ n ∧ FarI T (i + 1) ∧ 0 ≤ n - (i + 1) ∧ n - (i + 1) < n - i))) ∧ (¬i < n → FarP T n 0)) := by
    intro h1 h2
    refine ⟨fun r r0 r1 => by omega, fun i i0 i1 hI => ⟨fun hi => ⟨fun _ => far_1, fun g1 => ⟨fun _ => far_1, fun g2 => ⟨by omega, by omega, by omega, fun r r0 r1 => ?_, by omega, by omega⟩⟩⟩, fun hi _ => ⟨h1, h2, fun r r0 r1 => hI r r0 (by omega)⟩⟩⟩
    by_cases e : r = i
    · subst e; omega
    · exact hI r r0 (by omega)
  exact ⟨fun g1 => ⟨fun _ => far_1, fun g2 => ⟨fun _ => far_1, fun g3 => key (by omega) (by omega)⟩⟩, fun g1 => ⟨fun _ => far_1, fun g3 => key (by omega) (by omega)⟩⟩
set_option maxHeartbeats 8000000 in
theorem vShpR : ∀ ds, Sorts cShpR.sorts ds → tShpR.vc (TI N) ds := by
  refine all_t fun T => all_i fun n => all_i fun i => all_n ?_
  set_option linter.unusedSimpArgs false in
  simp (config := { maxSteps := 10000000 }) only [tShpR, e1, e34, e125, e127, e141, e142, e143, e144, e149, p594, p595, e596, e597, e598, e599, e600, e601, e602, e603, q604, p605, e606, e607, e608, e609, p610, e611, e612, e613, p614, p615, e616, p617, p618, p619, e620, q621, e622, e623, q624, q625, q626, p627, q628, q629, q630, e631, p632, q633, q634, Tree.vc, PE.den, E.den, dens, BO.ev, List.getElem?_cons_zero, List.getElem?_cons_succ, List.cons_append, List.nil_append, Option.some.injEq, D.i.injEq, D.t.injEq, exists_eq_left', exists_const, forall_const, forall_eq', one_ne, one_eq, zero_ne, zero_eq, min_i64, max_i64, min_u8, max_u8, and_true, true_and, Decidable.not_not, S3, S5, S6, S7, S8, S9, S10, S11, S12, S20, S1000, S1001, S1002, S1003, S1004, S1005, S1010, S1011, P10, P11, P12, P13, P14, P15, P16, P17, P20, P21, P22, P30, P31, P32, P33, P34, P35, P36, P37, P38, S13, S14, S15, S1008, S1009, P23, P40, P41, P42, P43, P44, P45, P46, P47, P48, P49, P50, P51, P52, P53, P54, P55, P56, P57, P58, P59, P60, P61, P62, P63, P64, P65, P66, P67, P68, P69, P70, P71, P72, P80, P73, P74, P81, P82, P83, P84]
  intro i0 i1 hT
  obtain ⟨⟨hk, hx, hy, hz, hw, hn⟩, ha, hm⟩ : (I64 (T i 0) ∧ I64 (T i 3) ∧ I64 (T i 4) ∧ I64 (T i 5) ∧ I64 (T i 6) ∧ I64 (T i 7)) ∧ slen (T i 1) ≤ 100000 ∧ slen (T i 2) ≤ 100000 := ⟨hT.1 i i0 i1, hT.2 i i0 i1⟩
  generalize T i 0 = k at *
  generalize T i 1 = a at *
  generalize T i 2 = m at *
  generalize T i 3 = x at *
  generalize T i 4 = y at *
  generalize T i 5 = z at *
  generalize T i 6 = w at *
  generalize T i 7 = n' at *
  have hk : -9223372036854775808 ≤ k ∧ k ≤ 9223372036854775807 := hk
  have hw : -9223372036854775808 ≤ w ∧ w ≤ 9223372036854775807 := hw
  have e2 := @sE2 k _ _ _ rfl rfl rfl a m x y z w n'
  refine ⟨fun h => e2 (by omega), fun h1 => ⟨fun h => e2 (by omega), fun h2 => ⟨fun h => e2 (by omega), fun h3 => ⟨fun h => e2 (by omega), fun h4 => ⟨fun h5 => ⟨fun h => e2 (by omega), fun h6 => ?_⟩, fun h5 => ?_⟩⟩⟩⟩⟩
  all_goals
    have hk1 : 1 ≤ k := by omega
    have hk2 : k ≤ 13 := by omega
    clear e2
    simp only [colAr hk1 hk2, colNm hk1 hk2, colNum hk1 hk2]
    change _ ∧ _
    obtain ⟨P, Q, hP, hQ, f2, fx⟩ := @shp_tail k a m x y z w n' _ _ _ rfl rfl rfl hk1 hk2 (by omega) (by omega) (by omega)
    have hc := knum_le k.toNat
    generalize kar k.toNat = A at f2 fx ⊢
    generalize knm k.toNat = B at f2 fx ⊢
    generalize knum k.toNat = C at hP f2 fx hc ⊢
    unfold T3 at hP hQ
    have hk0 : 0 ≤ k := by omega
    have c1 : (0 : Int) ≤ C := by omega
    have c2 : (C : Int) ≤ 3 := by omega
    have c3 : (0 : Int) ≤ 3 - C := by omega
    have c4 : (C : Int) + (3 - C) ≤ 3 := by omega
    have c5 : (3 : Int) - C ≤ 1000 := by omega
    clear hk hx hy hz hw hn h1 h2 h3 h4 hk1 hk2 hc i0 i1 hT
    generalize tupd (tupd (tupd (fun _ _ => 0) 0 0 x) 1 0 y) 2 0 z = T at hP hQ ⊢
    generalize StepP k a m x y z w n' 2 = S2 at *
    generalize StepP k a m x y z w n' 6 = S6 at *
    generalize StepP k a m x y z w n' 7 = S7 at *
    generalize StepP k a m x y z w n' 0 = S0 at *
    repeat' with_reducible first | apply And.intro | intro _
    all_goals
      (try have p1 := hP _ (by assumption))
      (try have q1 := hQ _ (by assumption))
      clear hP hQ
      first | assumption | (clear c1 c2 c3 c4 c5 hk0; grind)
set_option maxHeartbeats 4000000 in
theorem vWrR : ∀ ds, Sorts cWrR.sorts ds → tWrR.vc (TI N) ds := by
  refine all_t fun T => all_i fun n => all_i fun i => all_n ?_
  set_option linter.unusedSimpArgs false in
  simp (config := { maxSteps := 10000000 }) only [tWrR, e34, e58, e141, e149, e186, e187, e188, e189, e190, e191, e192, e193, e194, e195, e196, e197, e198, e205, e207, e209, p594, p595, e596, e597, e598, e599, e600, e601, e602, e603, p605, e609, e613, p614, p615, e622, e623, p635, e636, p637, e638, p639, e640, p641, e642, p643, e644, p645, e646, p647, p648, e649, p650, e651, e652, e653, e654, e655, e656, e657, e658, e659, e660, e661, p662, e663, e664, e665, e666, e667, p668, e669, e670, e671, e672, e673, p674, e675, e676, e677, e678, e679, e680, e681, e682, e683, e684, e685, e686, e687, e688, e689, e690, e691, e692, e693, e694, e695, e696, e697, e698, e699, e700, e701, e702, e703, e704, e705, e706, e707, e708, e709, e710, e711, e712, e713, e714, e715, e716, e717, e718, e719, e720, e721, e722, e723, e724, e725, e726, e727, e728, e729, e730, e731, e732, e733, e734, e735, e736, e737, e738, e739, e740, e741, e742, e743, e744, e745, e746, e747, e748, e749, Tree.vc, PE.den, E.den, dens, BO.ev, List.getElem?_cons_zero, List.getElem?_cons_succ, List.cons_append, List.nil_append, Option.some.injEq, D.i.injEq, D.t.injEq, exists_eq_left', exists_const, forall_const, forall_eq', one_ne, one_eq, zero_ne, zero_eq, min_i64, max_i64, min_u8, max_u8, and_true, true_and, Decidable.not_not, S3, S5, S6, S7, S8, S9, S10, S11, S12, S20, S1000, S1001, S1002, S1003, S1004, S1005, S1010, S1011, P10, P11, P12, P13, P14, P15, P16, P17, P20, P21, P22, P30, P31, P32, P33, P34, P35, P36, P37, P38, S13, S14, S15, S1008, S1009, P23, P40, P41, P42, P43, P44, P45, P46, P47, P48, P49, P50, P51, P52, P53, P54, P55, P56, P57, P58, P59, P60, P61, P62, P63, P64, P65, P66, P67, P68, P69, P70, P71, P72, P80, P73, P74, P81, P82, P83, P84]
  intro i0 i1 hT hO
  obtain ⟨⟨hk, hx, hy, hz, hw, hn⟩, ha, hm⟩ : (I64 (T i 0) ∧ I64 (T i 3) ∧ I64 (T i 4) ∧ I64 (T i 5) ∧ I64 (T i 6) ∧ I64 (T i 7)) ∧ slen (T i 1) ≤ 100000 ∧ slen (T i 2) ≤ 100000 := ⟨hT.1 i i0 i1, hT.2 i i0 i1⟩
  generalize T i 0 = k at *
  generalize T i 1 = a at *
  generalize T i 2 = m at *
  generalize T i 3 = x at *
  generalize T i 4 = y at *
  generalize T i 5 = z at *
  generalize T i 6 = w at *
  generalize T i 7 = n' at *
  have hF := okF hO
  have hk1 := hF.k1
  have hk2 := hF.k13
  have hC := knum_le k.toNat
  simp only [colNum hF.k1 hF.k13, colWd hF.k1 hF.k13, kc' hF.k1 hF.k13, eIs, eFails]
  have L : ∀ {T : Tb} {c : Int}, RowsS T ([kw.getD k.toNat []] ++ (if a = 0 then [] else [sdec a]) ++ (if m = 0 then [] else [sdec m]) ++ ([x, y, z].take (knum k.toNat)).map itoa ++ (if w = 1 then [wIs, itoa n'] else if w = 2 then [wFails, itoa n'] else [])) c →
    Short T c (-17) ∧ LineP k a m x y z w n' (joinS T c (-17)) ∧ slen (joinS T c (-17)) ≤ 200 := fun h => wr_leaf hF hx hy hz hn h
  have ea : a = senc (sdec a) := (senc_sdec a).symm
  have em : m = senc (sdec m) := (senc_sdec m).symm
  refine ⟨by omega, by omega, ?_⟩
  have hx' : -9223372036854775808 ≤ x ∧ x ≤ 9223372036854775807 := hx
  have hy' : -9223372036854775808 ≤ y ∧ y ≤ 9223372036854775807 := hy
  have hz' : -9223372036854775808 ≤ z ∧ z ≤ 9223372036854775807 := hz
  have hn' : -9223372036854775808 ≤ n' ∧ n' ≤ 9223372036854775807 := hn
  clear hk ha hm hx hy hz hw hn hO hF hk1 hk2 i0 i1 hT
  generalize knum k.toNat = C at *
  generalize kw.getD k.toNat [] = K at *
  repeat' with_reducible first | refine L ?_ | apply And.intro | intro _
  all_goals first
    | omega
    | (first | rw [if_pos (by assumption : a = 0)] | rw [if_neg (by assumption : ¬ a = 0)]
       first | rw [if_pos (by assumption : m = 0)] | rw [if_neg (by assumption : ¬ m = 0)]
       first | rw [if_pos (by assumption : w = 1)] | rw [if_neg (by assumption : ¬ w = 1)]
       (try first | rw [if_pos (by assumption : w = 2)] | rw [if_neg (by assumption : ¬ w = 2)])
       have : C = 0 ∨ C = 1 ∨ C = 2 ∨ C = 3 := by omega
       rcases this with rfl | rfl | rfl | rfl
       all_goals first
         | (exfalso; omega)
         | (refine ⟨rfl, fun r v hr => ?_⟩
            rcases r with _ | _ | _ | _ | _ | _ | _ | _ | r <;> simp at hr <;> subst hr <;> simp [tupd, ← ea, ← em]))
end Go.Tt
