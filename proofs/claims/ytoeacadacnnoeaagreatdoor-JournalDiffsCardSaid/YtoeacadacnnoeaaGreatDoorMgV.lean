/-
  The formulas of the three loops hold. Conditions: none.
-/
import Derived.Test.YtoeacadacnnoeaaGreatDoorMgT
namespace Go.Mg
open Go Go.Sx
variable {I : Itp}

theorem words {f : Int → Nat → Int} {c x : Int} (h : ∀ i : Nat, i < 16 → f (c + i) 0 = 0) (h0 : 0 ≤ x) (h1 : x < 1024) : f (x / 64 + c) 0 = 0 := by
  have := h (x / 64).toNat (by omega)
  rw [← this]; congr 1; omega

theorem vCounts : ∀ ds, Sorts cCounts.sorts ds → tCounts.vc I ds := by
  refine all_t fun T => all_n ?_
  set_option linter.unusedSimpArgs false in
  simp only [tCounts, Tree.vc, PE.den, E.den, dens, BO.ev, List.getElem?_cons_zero, List.getElem?_cons_succ, List.cons_append, List.nil_append, Option.some.injEq, D.i.injEq, D.t.injEq, exists_eq_left', exists_const, forall_const, forall_eq', one_ne, one_eq, zero_ne, zero_eq, min_i64, max_i64, min_u8, max_u8, min_u16, max_u16, min_u32, max_u32, min_u64, max_u64, and_true, true_and]
  intro hT a b c d e x h0 h1 h2 h3 h4 h5 h6 h7 h8 h9 h10 h11
  have hx := hT x
  generalize T x 0 = k at *
  generalize T x 1 = y at *
  clear hT
  refine ⟨fun h => ?_, fun _ => trivial⟩
  repeat' (first | omega | (intro _) | (refine And.intro ?_ ?_) | trivial)
theorem vState : ∀ ds, Sorts cState.sorts ds → tState.vc I ds := by
  refine all_t fun T => all_n ?_
  set_option linter.unusedSimpArgs false in
  simp only [tState, Tree.vc, PE.den, E.den, dens, BO.ev, List.getElem?_cons_zero, List.getElem?_cons_succ, List.cons_append, List.nil_append, Option.some.injEq, D.i.injEq, D.t.injEq, exists_eq_left', exists_const, forall_const, forall_eq', one_ne, one_eq, zero_ne, zero_eq, min_i64, max_i64, min_u8, max_u8, min_u16, max_u16, min_u32, max_u32, min_u64, max_u64, and_true, true_and]
  intro hT x h0 h1
  have hx := hT x
  have hx : T x 0 = 0 := by omega
  rw [hx]
  clear hT
  refine ⟨fun h => ?_, fun _ => trivial⟩
  repeat' (first | omega | (intro _) | (refine And.intro ?_ ?_) | trivial)
theorem vAll0 : ∀ ds, Sorts (cAll 0).sorts ds → tAll0.vc I ds := by
  refine all_t fun T => all_n ?_
  set_option linter.unusedSimpArgs false in
  simp only [tAll0, Tree.vc, PE.den, E.den, dens, BO.ev, List.getElem?_cons_zero, List.getElem?_cons_succ, List.cons_append, List.nil_append, Option.some.injEq, D.i.injEq, D.t.injEq, exists_eq_left', exists_const, forall_const, forall_eq', one_ne, one_eq, zero_ne, zero_eq, min_i64, max_i64, min_u8, max_u8, min_u16, max_u16, min_u32, max_u32, min_u64, max_u64, and_true, true_and]
  intro a0 a1 a2 a3 a4 a5 a6 a7 a8 a9 a10 a11 a12 a13 a14 a15 x h0 h1
  refine ⟨fun h => ?_, fun _ => trivial⟩
  have hw := words (f := T) (c := 0) (x := x) (fun i hi => by
    match i, hi with
    | 0, _ => exact a0 | 1, _ => exact a1 | 2, _ => exact a2 | 3, _ => exact a3 | 4, _ => exact a4 | 5, _ => exact a5 | 6, _ => exact a6 | 7, _ => exact a7
    | 8, _ => exact a8 | 9, _ => exact a9 | 10, _ => exact a10 | 11, _ => exact a11 | 12, _ => exact a12 | 13, _ => exact a13 | 14, _ => exact a14 | 15, _ => exact a15
    | n + 16, hi => omega) h0 h
  rw [quo64 h0 h]; simp only [Int.add_zero] at hw
  rw [hw, bits_zero]
  have hm : x.tmod 64 = x % 64 := Int.tmod_eq_emod_of_nonneg h0
  rw [hm]
  clear a0 a1 a2 a3 a4 a5 a6 a7 a8 a9 a10 a11 a12 a13 a14 a15 hw
  repeat' (first | omega | (intro _) | (refine And.intro ?_ ?_) | trivial)
theorem vAll1 : ∀ ds, Sorts (cAll 1).sorts ds → tAll1.vc I ds := by
  refine all_t fun T => all_n ?_
  set_option linter.unusedSimpArgs false in
  simp only [tAll1, Tree.vc, PE.den, E.den, dens, BO.ev, List.getElem?_cons_zero, List.getElem?_cons_succ, List.cons_append, List.nil_append, Option.some.injEq, D.i.injEq, D.t.injEq, exists_eq_left', exists_const, forall_const, forall_eq', one_ne, one_eq, zero_ne, zero_eq, min_i64, max_i64, min_u8, max_u8, min_u16, max_u16, min_u32, max_u32, min_u64, max_u64, and_true, true_and]
  intro a0 a1 a2 a3 a4 a5 a6 a7 a8 a9 a10 a11 a12 a13 a14 a15 x h0 h1
  refine ⟨fun h => ?_, fun _ => trivial⟩
  have hw := words (f := T) (c := 16) (x := x) (fun i hi => by
    match i, hi with
    | 0, _ => exact a0 | 1, _ => exact a1 | 2, _ => exact a2 | 3, _ => exact a3 | 4, _ => exact a4 | 5, _ => exact a5 | 6, _ => exact a6 | 7, _ => exact a7
    | 8, _ => exact a8 | 9, _ => exact a9 | 10, _ => exact a10 | 11, _ => exact a11 | 12, _ => exact a12 | 13, _ => exact a13 | 14, _ => exact a14 | 15, _ => exact a15
    | n + 16, hi => omega) h0 h
  rw [quo64 h0 h]
  rw [hw, bits_zero]
  have hm : x.tmod 64 = x % 64 := Int.tmod_eq_emod_of_nonneg h0
  rw [hm]
  clear a0 a1 a2 a3 a4 a5 a6 a7 a8 a9 a10 a11 a12 a13 a14 a15 hw
  repeat' (first | omega | (intro _) | (refine And.intro ?_ ?_) | trivial)
theorem vAll2 : ∀ ds, Sorts (cAll 2).sorts ds → tAll2.vc I ds := by
  refine all_t fun T => all_n ?_
  set_option linter.unusedSimpArgs false in
  simp only [tAll2, Tree.vc, PE.den, E.den, dens, BO.ev, List.getElem?_cons_zero, List.getElem?_cons_succ, List.cons_append, List.nil_append, Option.some.injEq, D.i.injEq, D.t.injEq, exists_eq_left', exists_const, forall_const, forall_eq', one_ne, one_eq, zero_ne, zero_eq, min_i64, max_i64, min_u8, max_u8, min_u16, max_u16, min_u32, max_u32, min_u64, max_u64, and_true, true_and]
  intro a0 a1 a2 a3 a4 a5 a6 a7 a8 a9 a10 a11 a12 a13 a14 a15 x h0 h1
  refine ⟨fun h => ?_, fun _ => trivial⟩
  have hw := words (f := T) (c := 32) (x := x) (fun i hi => by
    match i, hi with
    | 0, _ => exact a0 | 1, _ => exact a1 | 2, _ => exact a2 | 3, _ => exact a3 | 4, _ => exact a4 | 5, _ => exact a5 | 6, _ => exact a6 | 7, _ => exact a7
    | 8, _ => exact a8 | 9, _ => exact a9 | 10, _ => exact a10 | 11, _ => exact a11 | 12, _ => exact a12 | 13, _ => exact a13 | 14, _ => exact a14 | 15, _ => exact a15
    | n + 16, hi => omega) h0 h
  rw [quo64 h0 h]
  rw [hw, bits_zero]
  have hm : x.tmod 64 = x % 64 := Int.tmod_eq_emod_of_nonneg h0
  rw [hm]
  clear a0 a1 a2 a3 a4 a5 a6 a7 a8 a9 a10 a11 a12 a13 a14 a15 hw
  repeat' (first | omega | (intro _) | (refine And.intro ?_ ?_) | trivial)
theorem vAll3 : ∀ ds, Sorts (cAll 3).sorts ds → tAll3.vc I ds := by
  refine all_t fun T => all_n ?_
  set_option linter.unusedSimpArgs false in
  simp only [tAll3, Tree.vc, PE.den, E.den, dens, BO.ev, List.getElem?_cons_zero, List.getElem?_cons_succ, List.cons_append, List.nil_append, Option.some.injEq, D.i.injEq, D.t.injEq, exists_eq_left', exists_const, forall_const, forall_eq', one_ne, one_eq, zero_ne, zero_eq, min_i64, max_i64, min_u8, max_u8, min_u16, max_u16, min_u32, max_u32, min_u64, max_u64, and_true, true_and]
  intro a0 a1 a2 a3 a4 a5 a6 a7 a8 a9 a10 a11 a12 a13 a14 a15 x h0 h1
  refine ⟨fun h => ?_, fun _ => trivial⟩
  have hw := words (f := T) (c := 48) (x := x) (fun i hi => by
    match i, hi with
    | 0, _ => exact a0 | 1, _ => exact a1 | 2, _ => exact a2 | 3, _ => exact a3 | 4, _ => exact a4 | 5, _ => exact a5 | 6, _ => exact a6 | 7, _ => exact a7
    | 8, _ => exact a8 | 9, _ => exact a9 | 10, _ => exact a10 | 11, _ => exact a11 | 12, _ => exact a12 | 13, _ => exact a13 | 14, _ => exact a14 | 15, _ => exact a15
    | n + 16, hi => omega) h0 h
  rw [quo64 h0 h]
  rw [hw, bits_zero]
  have hm : x.tmod 64 = x % 64 := Int.tmod_eq_emod_of_nonneg h0
  rw [hm]
  clear a0 a1 a2 a3 a4 a5 a6 a7 a8 a9 a10 a11 a12 a13 a14 a15 hw
  repeat' (first | omega | (intro _) | (refine And.intro ?_ ?_) | trivial)
theorem vAll4 : ∀ ds, Sorts (cAll 4).sorts ds → tAll4.vc I ds := by
  refine all_t fun T => all_n ?_
  set_option linter.unusedSimpArgs false in
  simp only [tAll4, Tree.vc, PE.den, E.den, dens, BO.ev, List.getElem?_cons_zero, List.getElem?_cons_succ, List.cons_append, List.nil_append, Option.some.injEq, D.i.injEq, D.t.injEq, exists_eq_left', exists_const, forall_const, forall_eq', one_ne, one_eq, zero_ne, zero_eq, min_i64, max_i64, min_u8, max_u8, min_u16, max_u16, min_u32, max_u32, min_u64, max_u64, and_true, true_and]
  intro a0 a1 a2 a3 a4 a5 a6 a7 a8 a9 a10 a11 a12 a13 a14 a15 x h0 h1
  refine ⟨fun h => ?_, fun _ => trivial⟩
  have hw := words (f := T) (c := 64) (x := x) (fun i hi => by
    match i, hi with
    | 0, _ => exact a0 | 1, _ => exact a1 | 2, _ => exact a2 | 3, _ => exact a3 | 4, _ => exact a4 | 5, _ => exact a5 | 6, _ => exact a6 | 7, _ => exact a7
    | 8, _ => exact a8 | 9, _ => exact a9 | 10, _ => exact a10 | 11, _ => exact a11 | 12, _ => exact a12 | 13, _ => exact a13 | 14, _ => exact a14 | 15, _ => exact a15
    | n + 16, hi => omega) h0 h
  rw [quo64 h0 h]
  rw [hw, bits_zero]
  have hm : x.tmod 64 = x % 64 := Int.tmod_eq_emod_of_nonneg h0
  rw [hm]
  clear a0 a1 a2 a3 a4 a5 a6 a7 a8 a9 a10 a11 a12 a13 a14 a15 hw
  repeat' (first | omega | (intro _) | (refine And.intro ?_ ?_) | trivial)
theorem vAll5 : ∀ ds, Sorts (cAll 5).sorts ds → tAll5.vc I ds := by
  refine all_t fun T => all_n ?_
  set_option linter.unusedSimpArgs false in
  simp only [tAll5, Tree.vc, PE.den, E.den, dens, BO.ev, List.getElem?_cons_zero, List.getElem?_cons_succ, List.cons_append, List.nil_append, Option.some.injEq, D.i.injEq, D.t.injEq, exists_eq_left', exists_const, forall_const, forall_eq', one_ne, one_eq, zero_ne, zero_eq, min_i64, max_i64, min_u8, max_u8, min_u16, max_u16, min_u32, max_u32, min_u64, max_u64, and_true, true_and]
  intro a0 a1 a2 a3 a4 a5 a6 a7 a8 a9 a10 a11 a12 a13 a14 a15 x h0 h1
  refine ⟨fun h => ?_, fun _ => trivial⟩
  have hw := words (f := T) (c := 80) (x := x) (fun i hi => by
    match i, hi with
    | 0, _ => exact a0 | 1, _ => exact a1 | 2, _ => exact a2 | 3, _ => exact a3 | 4, _ => exact a4 | 5, _ => exact a5 | 6, _ => exact a6 | 7, _ => exact a7
    | 8, _ => exact a8 | 9, _ => exact a9 | 10, _ => exact a10 | 11, _ => exact a11 | 12, _ => exact a12 | 13, _ => exact a13 | 14, _ => exact a14 | 15, _ => exact a15
    | n + 16, hi => omega) h0 h
  rw [quo64 h0 h]
  rw [hw, bits_zero]
  have hm : x.tmod 64 = x % 64 := Int.tmod_eq_emod_of_nonneg h0
  rw [hm]
  clear a0 a1 a2 a3 a4 a5 a6 a7 a8 a9 a10 a11 a12 a13 a14 a15 hw
  repeat' (first | omega | (intro _) | (refine And.intro ?_ ?_) | trivial)
theorem vAll6 : ∀ ds, Sorts (cAll 6).sorts ds → tAll6.vc I ds := by
  refine all_t fun T => all_n ?_
  set_option linter.unusedSimpArgs false in
  simp only [tAll6, Tree.vc, PE.den, E.den, dens, BO.ev, List.getElem?_cons_zero, List.getElem?_cons_succ, List.cons_append, List.nil_append, Option.some.injEq, D.i.injEq, D.t.injEq, exists_eq_left', exists_const, forall_const, forall_eq', one_ne, one_eq, zero_ne, zero_eq, min_i64, max_i64, min_u8, max_u8, min_u16, max_u16, min_u32, max_u32, min_u64, max_u64, and_true, true_and]
  intro a0 a1 a2 a3 a4 a5 a6 a7 a8 a9 a10 a11 a12 a13 a14 a15 x h0 h1
  refine ⟨fun h => ?_, fun _ => trivial⟩
  have hw := words (f := T) (c := 96) (x := x) (fun i hi => by
    match i, hi with
    | 0, _ => exact a0 | 1, _ => exact a1 | 2, _ => exact a2 | 3, _ => exact a3 | 4, _ => exact a4 | 5, _ => exact a5 | 6, _ => exact a6 | 7, _ => exact a7
    | 8, _ => exact a8 | 9, _ => exact a9 | 10, _ => exact a10 | 11, _ => exact a11 | 12, _ => exact a12 | 13, _ => exact a13 | 14, _ => exact a14 | 15, _ => exact a15
    | n + 16, hi => omega) h0 h
  rw [quo64 h0 h]
  rw [hw, bits_zero]
  have hm : x.tmod 64 = x % 64 := Int.tmod_eq_emod_of_nonneg h0
  rw [hm]
  clear a0 a1 a2 a3 a4 a5 a6 a7 a8 a9 a10 a11 a12 a13 a14 a15 hw
  repeat' (first | omega | (intro _) | (refine And.intro ?_ ?_) | trivial)
theorem vAll7 : ∀ ds, Sorts (cAll 7).sorts ds → tAll7.vc I ds := by
  refine all_t fun T => all_n ?_
  set_option linter.unusedSimpArgs false in
  simp only [tAll7, Tree.vc, PE.den, E.den, dens, BO.ev, List.getElem?_cons_zero, List.getElem?_cons_succ, List.cons_append, List.nil_append, Option.some.injEq, D.i.injEq, D.t.injEq, exists_eq_left', exists_const, forall_const, forall_eq', one_ne, one_eq, zero_ne, zero_eq, min_i64, max_i64, min_u8, max_u8, min_u16, max_u16, min_u32, max_u32, min_u64, max_u64, and_true, true_and]
  intro a0 a1 a2 a3 a4 a5 a6 a7 a8 a9 a10 a11 a12 a13 a14 a15 x h0 h1
  refine ⟨fun h => ?_, fun _ => trivial⟩
  have hw := words (f := T) (c := 112) (x := x) (fun i hi => by
    match i, hi with
    | 0, _ => exact a0 | 1, _ => exact a1 | 2, _ => exact a2 | 3, _ => exact a3 | 4, _ => exact a4 | 5, _ => exact a5 | 6, _ => exact a6 | 7, _ => exact a7
    | 8, _ => exact a8 | 9, _ => exact a9 | 10, _ => exact a10 | 11, _ => exact a11 | 12, _ => exact a12 | 13, _ => exact a13 | 14, _ => exact a14 | 15, _ => exact a15
    | n + 16, hi => omega) h0 h
  rw [quo64 h0 h]
  rw [hw, bits_zero]
  have hm : x.tmod 64 = x % 64 := Int.tmod_eq_emod_of_nonneg h0
  rw [hm]
  clear a0 a1 a2 a3 a4 a5 a6 a7 a8 a9 a10 a11 a12 a13 a14 a15 hw
  repeat' (first | omega | (intro _) | (refine And.intro ?_ ?_) | trivial)
theorem vAll8 : ∀ ds, Sorts (cAll 8).sorts ds → tAll8.vc I ds := by
  refine all_t fun T => all_n ?_
  set_option linter.unusedSimpArgs false in
  simp only [tAll8, Tree.vc, PE.den, E.den, dens, BO.ev, List.getElem?_cons_zero, List.getElem?_cons_succ, List.cons_append, List.nil_append, Option.some.injEq, D.i.injEq, D.t.injEq, exists_eq_left', exists_const, forall_const, forall_eq', one_ne, one_eq, zero_ne, zero_eq, min_i64, max_i64, min_u8, max_u8, min_u16, max_u16, min_u32, max_u32, min_u64, max_u64, and_true, true_and]
  intro a0 a1 a2 a3 a4 a5 a6 a7 a8 a9 a10 a11 a12 a13 a14 a15 x h0 h1
  refine ⟨fun h => ?_, fun _ => trivial⟩
  have hw := words (f := T) (c := 128) (x := x) (fun i hi => by
    match i, hi with
    | 0, _ => exact a0 | 1, _ => exact a1 | 2, _ => exact a2 | 3, _ => exact a3 | 4, _ => exact a4 | 5, _ => exact a5 | 6, _ => exact a6 | 7, _ => exact a7
    | 8, _ => exact a8 | 9, _ => exact a9 | 10, _ => exact a10 | 11, _ => exact a11 | 12, _ => exact a12 | 13, _ => exact a13 | 14, _ => exact a14 | 15, _ => exact a15
    | n + 16, hi => omega) h0 h
  rw [quo64 h0 h]
  rw [hw, bits_zero]
  have hm : x.tmod 64 = x % 64 := Int.tmod_eq_emod_of_nonneg h0
  rw [hm]
  clear a0 a1 a2 a3 a4 a5 a6 a7 a8 a9 a10 a11 a12 a13 a14 a15 hw
  repeat' (first | omega | (intro _) | (refine And.intro ?_ ?_) | trivial)
theorem vAll9 : ∀ ds, Sorts (cAll 9).sorts ds → tAll9.vc I ds := by
  refine all_t fun T => all_n ?_
  set_option linter.unusedSimpArgs false in
  simp only [tAll9, Tree.vc, PE.den, E.den, dens, BO.ev, List.getElem?_cons_zero, List.getElem?_cons_succ, List.cons_append, List.nil_append, Option.some.injEq, D.i.injEq, D.t.injEq, exists_eq_left', exists_const, forall_const, forall_eq', one_ne, one_eq, zero_ne, zero_eq, min_i64, max_i64, min_u8, max_u8, min_u16, max_u16, min_u32, max_u32, min_u64, max_u64, and_true, true_and]
  intro a0 a1 a2 a3 a4 a5 a6 a7 a8 a9 a10 a11 a12 a13 a14 a15 x h0 h1
  refine ⟨fun h => ?_, fun _ => trivial⟩
  have hw := words (f := T) (c := 144) (x := x) (fun i hi => by
    match i, hi with
    | 0, _ => exact a0 | 1, _ => exact a1 | 2, _ => exact a2 | 3, _ => exact a3 | 4, _ => exact a4 | 5, _ => exact a5 | 6, _ => exact a6 | 7, _ => exact a7
    | 8, _ => exact a8 | 9, _ => exact a9 | 10, _ => exact a10 | 11, _ => exact a11 | 12, _ => exact a12 | 13, _ => exact a13 | 14, _ => exact a14 | 15, _ => exact a15
    | n + 16, hi => omega) h0 h
  rw [quo64 h0 h]
  rw [hw, bits_zero]
  have hm : x.tmod 64 = x % 64 := Int.tmod_eq_emod_of_nonneg h0
  rw [hm]
  clear a0 a1 a2 a3 a4 a5 a6 a7 a8 a9 a10 a11 a12 a13 a14 a15 hw
  repeat' (first | omega | (intro _) | (refine And.intro ?_ ?_) | trivial)
theorem vAll10 : ∀ ds, Sorts (cAll 10).sorts ds → tAll10.vc I ds := by
  refine all_t fun T => all_n ?_
  set_option linter.unusedSimpArgs false in
  simp only [tAll10, Tree.vc, PE.den, E.den, dens, BO.ev, List.getElem?_cons_zero, List.getElem?_cons_succ, List.cons_append, List.nil_append, Option.some.injEq, D.i.injEq, D.t.injEq, exists_eq_left', exists_const, forall_const, forall_eq', one_ne, one_eq, zero_ne, zero_eq, min_i64, max_i64, min_u8, max_u8, min_u16, max_u16, min_u32, max_u32, min_u64, max_u64, and_true, true_and]
  intro a0 a1 a2 a3 a4 a5 a6 a7 a8 a9 a10 a11 a12 a13 a14 a15 x h0 h1
  refine ⟨fun h => ?_, fun _ => trivial⟩
  have hw := words (f := T) (c := 160) (x := x) (fun i hi => by
    match i, hi with
    | 0, _ => exact a0 | 1, _ => exact a1 | 2, _ => exact a2 | 3, _ => exact a3 | 4, _ => exact a4 | 5, _ => exact a5 | 6, _ => exact a6 | 7, _ => exact a7
    | 8, _ => exact a8 | 9, _ => exact a9 | 10, _ => exact a10 | 11, _ => exact a11 | 12, _ => exact a12 | 13, _ => exact a13 | 14, _ => exact a14 | 15, _ => exact a15
    | n + 16, hi => omega) h0 h
  rw [quo64 h0 h]
  rw [hw, bits_zero]
  have hm : x.tmod 64 = x % 64 := Int.tmod_eq_emod_of_nonneg h0
  rw [hm]
  clear a0 a1 a2 a3 a4 a5 a6 a7 a8 a9 a10 a11 a12 a13 a14 a15 hw
  repeat' (first | omega | (intro _) | (refine And.intro ?_ ?_) | trivial)
theorem vAll11 : ∀ ds, Sorts (cAll 11).sorts ds → tAll11.vc I ds := by
  refine all_t fun T => all_n ?_
  set_option linter.unusedSimpArgs false in
  simp only [tAll11, Tree.vc, PE.den, E.den, dens, BO.ev, List.getElem?_cons_zero, List.getElem?_cons_succ, List.cons_append, List.nil_append, Option.some.injEq, D.i.injEq, D.t.injEq, exists_eq_left', exists_const, forall_const, forall_eq', one_ne, one_eq, zero_ne, zero_eq, min_i64, max_i64, min_u8, max_u8, min_u16, max_u16, min_u32, max_u32, min_u64, max_u64, and_true, true_and]
  intro a0 a1 a2 a3 a4 a5 a6 a7 a8 a9 a10 a11 a12 a13 a14 a15 x h0 h1
  refine ⟨fun h => ?_, fun _ => trivial⟩
  have hw := words (f := T) (c := 176) (x := x) (fun i hi => by
    match i, hi with
    | 0, _ => exact a0 | 1, _ => exact a1 | 2, _ => exact a2 | 3, _ => exact a3 | 4, _ => exact a4 | 5, _ => exact a5 | 6, _ => exact a6 | 7, _ => exact a7
    | 8, _ => exact a8 | 9, _ => exact a9 | 10, _ => exact a10 | 11, _ => exact a11 | 12, _ => exact a12 | 13, _ => exact a13 | 14, _ => exact a14 | 15, _ => exact a15
    | n + 16, hi => omega) h0 h
  rw [quo64 h0 h]
  rw [hw, bits_zero]
  have hm : x.tmod 64 = x % 64 := Int.tmod_eq_emod_of_nonneg h0
  rw [hm]
  clear a0 a1 a2 a3 a4 a5 a6 a7 a8 a9 a10 a11 a12 a13 a14 a15 hw
  repeat' (first | omega | (intro _) | (refine And.intro ?_ ?_) | trivial)
theorem vAll12 : ∀ ds, Sorts (cAll 12).sorts ds → tAll12.vc I ds := by
  refine all_t fun T => all_n ?_
  set_option linter.unusedSimpArgs false in
  simp only [tAll12, Tree.vc, PE.den, E.den, dens, BO.ev, List.getElem?_cons_zero, List.getElem?_cons_succ, List.cons_append, List.nil_append, Option.some.injEq, D.i.injEq, D.t.injEq, exists_eq_left', exists_const, forall_const, forall_eq', one_ne, one_eq, zero_ne, zero_eq, min_i64, max_i64, min_u8, max_u8, min_u16, max_u16, min_u32, max_u32, min_u64, max_u64, and_true, true_and]
  intro a0 a1 a2 a3 a4 a5 a6 a7 a8 a9 a10 a11 a12 a13 a14 a15 x h0 h1
  refine ⟨fun h => ?_, fun _ => trivial⟩
  have hw := words (f := T) (c := 192) (x := x) (fun i hi => by
    match i, hi with
    | 0, _ => exact a0 | 1, _ => exact a1 | 2, _ => exact a2 | 3, _ => exact a3 | 4, _ => exact a4 | 5, _ => exact a5 | 6, _ => exact a6 | 7, _ => exact a7
    | 8, _ => exact a8 | 9, _ => exact a9 | 10, _ => exact a10 | 11, _ => exact a11 | 12, _ => exact a12 | 13, _ => exact a13 | 14, _ => exact a14 | 15, _ => exact a15
    | n + 16, hi => omega) h0 h
  rw [quo64 h0 h]
  rw [hw, bits_zero]
  have hm : x.tmod 64 = x % 64 := Int.tmod_eq_emod_of_nonneg h0
  rw [hm]
  clear a0 a1 a2 a3 a4 a5 a6 a7 a8 a9 a10 a11 a12 a13 a14 a15 hw
  repeat' (first | omega | (intro _) | (refine And.intro ?_ ?_) | trivial)
theorem vAll13 : ∀ ds, Sorts (cAll 13).sorts ds → tAll13.vc I ds := by
  refine all_t fun T => all_n ?_
  set_option linter.unusedSimpArgs false in
  simp only [tAll13, Tree.vc, PE.den, E.den, dens, BO.ev, List.getElem?_cons_zero, List.getElem?_cons_succ, List.cons_append, List.nil_append, Option.some.injEq, D.i.injEq, D.t.injEq, exists_eq_left', exists_const, forall_const, forall_eq', one_ne, one_eq, zero_ne, zero_eq, min_i64, max_i64, min_u8, max_u8, min_u16, max_u16, min_u32, max_u32, min_u64, max_u64, and_true, true_and]
  intro a0 a1 a2 a3 a4 a5 a6 a7 a8 a9 a10 a11 a12 a13 a14 a15 x h0 h1
  refine ⟨fun h => ?_, fun _ => trivial⟩
  have hw := words (f := T) (c := 208) (x := x) (fun i hi => by
    match i, hi with
    | 0, _ => exact a0 | 1, _ => exact a1 | 2, _ => exact a2 | 3, _ => exact a3 | 4, _ => exact a4 | 5, _ => exact a5 | 6, _ => exact a6 | 7, _ => exact a7
    | 8, _ => exact a8 | 9, _ => exact a9 | 10, _ => exact a10 | 11, _ => exact a11 | 12, _ => exact a12 | 13, _ => exact a13 | 14, _ => exact a14 | 15, _ => exact a15
    | n + 16, hi => omega) h0 h
  rw [quo64 h0 h]
  rw [hw, bits_zero]
  have hm : x.tmod 64 = x % 64 := Int.tmod_eq_emod_of_nonneg h0
  rw [hm]
  clear a0 a1 a2 a3 a4 a5 a6 a7 a8 a9 a10 a11 a12 a13 a14 a15 hw
  repeat' (first | omega | (intro _) | (refine And.intro ?_ ?_) | trivial)
theorem vAll14 : ∀ ds, Sorts (cAll 14).sorts ds → tAll14.vc I ds := by
  refine all_t fun T => all_n ?_
  set_option linter.unusedSimpArgs false in
  simp only [tAll14, Tree.vc, PE.den, E.den, dens, BO.ev, List.getElem?_cons_zero, List.getElem?_cons_succ, List.cons_append, List.nil_append, Option.some.injEq, D.i.injEq, D.t.injEq, exists_eq_left', exists_const, forall_const, forall_eq', one_ne, one_eq, zero_ne, zero_eq, min_i64, max_i64, min_u8, max_u8, min_u16, max_u16, min_u32, max_u32, min_u64, max_u64, and_true, true_and]
  intro a0 a1 a2 a3 a4 a5 a6 a7 a8 a9 a10 a11 a12 a13 a14 a15 x h0 h1
  refine ⟨fun h => ?_, fun _ => trivial⟩
  have hw := words (f := T) (c := 224) (x := x) (fun i hi => by
    match i, hi with
    | 0, _ => exact a0 | 1, _ => exact a1 | 2, _ => exact a2 | 3, _ => exact a3 | 4, _ => exact a4 | 5, _ => exact a5 | 6, _ => exact a6 | 7, _ => exact a7
    | 8, _ => exact a8 | 9, _ => exact a9 | 10, _ => exact a10 | 11, _ => exact a11 | 12, _ => exact a12 | 13, _ => exact a13 | 14, _ => exact a14 | 15, _ => exact a15
    | n + 16, hi => omega) h0 h
  rw [quo64 h0 h]
  rw [hw, bits_zero]
  have hm : x.tmod 64 = x % 64 := Int.tmod_eq_emod_of_nonneg h0
  rw [hm]
  clear a0 a1 a2 a3 a4 a5 a6 a7 a8 a9 a10 a11 a12 a13 a14 a15 hw
  repeat' (first | omega | (intro _) | (refine And.intro ?_ ?_) | trivial)
theorem vAll15 : ∀ ds, Sorts (cAll 15).sorts ds → tAll15.vc I ds := by
  refine all_t fun T => all_n ?_
  set_option linter.unusedSimpArgs false in
  simp only [tAll15, Tree.vc, PE.den, E.den, dens, BO.ev, List.getElem?_cons_zero, List.getElem?_cons_succ, List.cons_append, List.nil_append, Option.some.injEq, D.i.injEq, D.t.injEq, exists_eq_left', exists_const, forall_const, forall_eq', one_ne, one_eq, zero_ne, zero_eq, min_i64, max_i64, min_u8, max_u8, min_u16, max_u16, min_u32, max_u32, min_u64, max_u64, and_true, true_and]
  intro a0 a1 a2 a3 a4 a5 a6 a7 a8 a9 a10 a11 a12 a13 a14 a15 x h0 h1
  refine ⟨fun h => ?_, fun _ => trivial⟩
  have hw := words (f := T) (c := 240) (x := x) (fun i hi => by
    match i, hi with
    | 0, _ => exact a0 | 1, _ => exact a1 | 2, _ => exact a2 | 3, _ => exact a3 | 4, _ => exact a4 | 5, _ => exact a5 | 6, _ => exact a6 | 7, _ => exact a7
    | 8, _ => exact a8 | 9, _ => exact a9 | 10, _ => exact a10 | 11, _ => exact a11 | 12, _ => exact a12 | 13, _ => exact a13 | 14, _ => exact a14 | 15, _ => exact a15
    | n + 16, hi => omega) h0 h
  rw [quo64 h0 h]
  rw [hw, bits_zero]
  have hm : x.tmod 64 = x % 64 := Int.tmod_eq_emod_of_nonneg h0
  rw [hm]
  clear a0 a1 a2 a3 a4 a5 a6 a7 a8 a9 a10 a11 a12 a13 a14 a15 hw
  repeat' (first | omega | (intro _) | (refine And.intro ?_ ?_) | trivial)
theorem vAll16 : ∀ ds, Sorts (cAll 16).sorts ds → tAll16.vc I ds := by
  refine all_t fun T => all_n ?_
  set_option linter.unusedSimpArgs false in
  simp only [tAll16, Tree.vc, PE.den, E.den, dens, BO.ev, List.getElem?_cons_zero, List.getElem?_cons_succ, List.cons_append, List.nil_append, Option.some.injEq, D.i.injEq, D.t.injEq, exists_eq_left', exists_const, forall_const, forall_eq', one_ne, one_eq, zero_ne, zero_eq, min_i64, max_i64, min_u8, max_u8, min_u16, max_u16, min_u32, max_u32, min_u64, max_u64, and_true, true_and]
  intro a0 a1 a2 a3 a4 a5 a6 a7 a8 a9 a10 a11 a12 a13 a14 a15 x h0 h1
  refine ⟨fun h => ?_, fun _ => trivial⟩
  have hw := words (f := T) (c := 256) (x := x) (fun i hi => by
    match i, hi with
    | 0, _ => exact a0 | 1, _ => exact a1 | 2, _ => exact a2 | 3, _ => exact a3 | 4, _ => exact a4 | 5, _ => exact a5 | 6, _ => exact a6 | 7, _ => exact a7
    | 8, _ => exact a8 | 9, _ => exact a9 | 10, _ => exact a10 | 11, _ => exact a11 | 12, _ => exact a12 | 13, _ => exact a13 | 14, _ => exact a14 | 15, _ => exact a15
    | n + 16, hi => omega) h0 h
  rw [quo64 h0 h]
  rw [hw, bits_zero]
  have hm : x.tmod 64 = x % 64 := Int.tmod_eq_emod_of_nonneg h0
  rw [hm]
  clear a0 a1 a2 a3 a4 a5 a6 a7 a8 a9 a10 a11 a12 a13 a14 a15 hw
  repeat' (first | omega | (intro _) | (refine And.intro ?_ ?_) | trivial)
theorem vAll17 : ∀ ds, Sorts (cAll 17).sorts ds → tAll17.vc I ds := by
  refine all_t fun T => all_n ?_
  set_option linter.unusedSimpArgs false in
  simp only [tAll17, Tree.vc, PE.den, E.den, dens, BO.ev, List.getElem?_cons_zero, List.getElem?_cons_succ, List.cons_append, List.nil_append, Option.some.injEq, D.i.injEq, D.t.injEq, exists_eq_left', exists_const, forall_const, forall_eq', one_ne, one_eq, zero_ne, zero_eq, min_i64, max_i64, min_u8, max_u8, min_u16, max_u16, min_u32, max_u32, min_u64, max_u64, and_true, true_and]
  intro a0 a1 a2 a3 a4 a5 a6 a7 a8 a9 a10 a11 a12 a13 a14 a15 x h0 h1
  refine ⟨fun h => ?_, fun _ => trivial⟩
  have hw := words (f := T) (c := 272) (x := x) (fun i hi => by
    match i, hi with
    | 0, _ => exact a0 | 1, _ => exact a1 | 2, _ => exact a2 | 3, _ => exact a3 | 4, _ => exact a4 | 5, _ => exact a5 | 6, _ => exact a6 | 7, _ => exact a7
    | 8, _ => exact a8 | 9, _ => exact a9 | 10, _ => exact a10 | 11, _ => exact a11 | 12, _ => exact a12 | 13, _ => exact a13 | 14, _ => exact a14 | 15, _ => exact a15
    | n + 16, hi => omega) h0 h
  rw [quo64 h0 h]
  rw [hw, bits_zero]
  have hm : x.tmod 64 = x % 64 := Int.tmod_eq_emod_of_nonneg h0
  rw [hm]
  clear a0 a1 a2 a3 a4 a5 a6 a7 a8 a9 a10 a11 a12 a13 a14 a15 hw
  repeat' (first | omega | (intro _) | (refine And.intro ?_ ?_) | trivial)
theorem vAll18 : ∀ ds, Sorts (cAll 18).sorts ds → tAll18.vc I ds := by
  refine all_t fun T => all_n ?_
  set_option linter.unusedSimpArgs false in
  simp only [tAll18, Tree.vc, PE.den, E.den, dens, BO.ev, List.getElem?_cons_zero, List.getElem?_cons_succ, List.cons_append, List.nil_append, Option.some.injEq, D.i.injEq, D.t.injEq, exists_eq_left', exists_const, forall_const, forall_eq', one_ne, one_eq, zero_ne, zero_eq, min_i64, max_i64, min_u8, max_u8, min_u16, max_u16, min_u32, max_u32, min_u64, max_u64, and_true, true_and]
  intro a0 a1 a2 a3 a4 a5 a6 a7 a8 a9 a10 a11 a12 a13 a14 a15 x h0 h1
  refine ⟨fun h => ?_, fun _ => trivial⟩
  have hw := words (f := T) (c := 288) (x := x) (fun i hi => by
    match i, hi with
    | 0, _ => exact a0 | 1, _ => exact a1 | 2, _ => exact a2 | 3, _ => exact a3 | 4, _ => exact a4 | 5, _ => exact a5 | 6, _ => exact a6 | 7, _ => exact a7
    | 8, _ => exact a8 | 9, _ => exact a9 | 10, _ => exact a10 | 11, _ => exact a11 | 12, _ => exact a12 | 13, _ => exact a13 | 14, _ => exact a14 | 15, _ => exact a15
    | n + 16, hi => omega) h0 h
  rw [quo64 h0 h]
  rw [hw, bits_zero]
  have hm : x.tmod 64 = x % 64 := Int.tmod_eq_emod_of_nonneg h0
  rw [hm]
  clear a0 a1 a2 a3 a4 a5 a6 a7 a8 a9 a10 a11 a12 a13 a14 a15 hw
  repeat' (first | omega | (intro _) | (refine And.intro ?_ ?_) | trivial)
theorem vAll19 : ∀ ds, Sorts (cAll 19).sorts ds → tAll19.vc I ds := by
  refine all_t fun T => all_n ?_
  set_option linter.unusedSimpArgs false in
  simp only [tAll19, Tree.vc, PE.den, E.den, dens, BO.ev, List.getElem?_cons_zero, List.getElem?_cons_succ, List.cons_append, List.nil_append, Option.some.injEq, D.i.injEq, D.t.injEq, exists_eq_left', exists_const, forall_const, forall_eq', one_ne, one_eq, zero_ne, zero_eq, min_i64, max_i64, min_u8, max_u8, min_u16, max_u16, min_u32, max_u32, min_u64, max_u64, and_true, true_and]
  intro a0 a1 a2 a3 a4 a5 a6 a7 a8 a9 a10 a11 a12 a13 a14 a15 x h0 h1
  refine ⟨fun h => ?_, fun _ => trivial⟩
  have hw := words (f := T) (c := 304) (x := x) (fun i hi => by
    match i, hi with
    | 0, _ => exact a0 | 1, _ => exact a1 | 2, _ => exact a2 | 3, _ => exact a3 | 4, _ => exact a4 | 5, _ => exact a5 | 6, _ => exact a6 | 7, _ => exact a7
    | 8, _ => exact a8 | 9, _ => exact a9 | 10, _ => exact a10 | 11, _ => exact a11 | 12, _ => exact a12 | 13, _ => exact a13 | 14, _ => exact a14 | 15, _ => exact a15
    | n + 16, hi => omega) h0 h
  rw [quo64 h0 h]
  rw [hw, bits_zero]
  have hm : x.tmod 64 = x % 64 := Int.tmod_eq_emod_of_nonneg h0
  rw [hm]
  clear a0 a1 a2 a3 a4 a5 a6 a7 a8 a9 a10 a11 a12 a13 a14 a15 hw
  repeat' (first | omega | (intro _) | (refine And.intro ?_ ?_) | trivial)
theorem vAll20 : ∀ ds, Sorts (cAll 20).sorts ds → tAll20.vc I ds := by
  refine all_t fun T => all_n ?_
  set_option linter.unusedSimpArgs false in
  simp only [tAll20, Tree.vc, PE.den, E.den, dens, BO.ev, List.getElem?_cons_zero, List.getElem?_cons_succ, List.cons_append, List.nil_append, Option.some.injEq, D.i.injEq, D.t.injEq, exists_eq_left', exists_const, forall_const, forall_eq', one_ne, one_eq, zero_ne, zero_eq, min_i64, max_i64, min_u8, max_u8, min_u16, max_u16, min_u32, max_u32, min_u64, max_u64, and_true, true_and]
  intro a0 a1 a2 a3 a4 a5 a6 a7 a8 a9 a10 a11 a12 a13 a14 a15 x h0 h1
  refine ⟨fun h => ?_, fun _ => trivial⟩
  have hw := words (f := T) (c := 320) (x := x) (fun i hi => by
    match i, hi with
    | 0, _ => exact a0 | 1, _ => exact a1 | 2, _ => exact a2 | 3, _ => exact a3 | 4, _ => exact a4 | 5, _ => exact a5 | 6, _ => exact a6 | 7, _ => exact a7
    | 8, _ => exact a8 | 9, _ => exact a9 | 10, _ => exact a10 | 11, _ => exact a11 | 12, _ => exact a12 | 13, _ => exact a13 | 14, _ => exact a14 | 15, _ => exact a15
    | n + 16, hi => omega) h0 h
  rw [quo64 h0 h]
  rw [hw, bits_zero]
  have hm : x.tmod 64 = x % 64 := Int.tmod_eq_emod_of_nonneg h0
  rw [hm]
  clear a0 a1 a2 a3 a4 a5 a6 a7 a8 a9 a10 a11 a12 a13 a14 a15 hw
  repeat' (first | omega | (intro _) | (refine And.intro ?_ ?_) | trivial)
theorem vAll21 : ∀ ds, Sorts (cAll 21).sorts ds → tAll21.vc I ds := by
  refine all_t fun T => all_n ?_
  set_option linter.unusedSimpArgs false in
  simp only [tAll21, Tree.vc, PE.den, E.den, dens, BO.ev, List.getElem?_cons_zero, List.getElem?_cons_succ, List.cons_append, List.nil_append, Option.some.injEq, D.i.injEq, D.t.injEq, exists_eq_left', exists_const, forall_const, forall_eq', one_ne, one_eq, zero_ne, zero_eq, min_i64, max_i64, min_u8, max_u8, min_u16, max_u16, min_u32, max_u32, min_u64, max_u64, and_true, true_and]
  intro a0 a1 a2 a3 a4 a5 a6 a7 a8 a9 a10 a11 a12 a13 a14 a15 x h0 h1
  refine ⟨fun h => ?_, fun _ => trivial⟩
  have hw := words (f := T) (c := 336) (x := x) (fun i hi => by
    match i, hi with
    | 0, _ => exact a0 | 1, _ => exact a1 | 2, _ => exact a2 | 3, _ => exact a3 | 4, _ => exact a4 | 5, _ => exact a5 | 6, _ => exact a6 | 7, _ => exact a7
    | 8, _ => exact a8 | 9, _ => exact a9 | 10, _ => exact a10 | 11, _ => exact a11 | 12, _ => exact a12 | 13, _ => exact a13 | 14, _ => exact a14 | 15, _ => exact a15
    | n + 16, hi => omega) h0 h
  rw [quo64 h0 h]
  rw [hw, bits_zero]
  have hm : x.tmod 64 = x % 64 := Int.tmod_eq_emod_of_nonneg h0
  rw [hm]
  clear a0 a1 a2 a3 a4 a5 a6 a7 a8 a9 a10 a11 a12 a13 a14 a15 hw
  repeat' (first | omega | (intro _) | (refine And.intro ?_ ?_) | trivial)
theorem vFresh : ∀ ds, Sorts cFresh.sorts ds → tFresh.vc I ds := by
  refine all_n ?_
  set_option linter.unusedSimpArgs false in
  simp only [tFresh, Tree.vc, PE.den, E.den, dens, BO.ev, List.getElem?_cons_zero, List.getElem?_cons_succ, List.cons_append, List.nil_append, Option.some.injEq, D.i.injEq, D.t.injEq, exists_eq_left', exists_const, forall_const, forall_eq', one_ne, one_eq, zero_ne, zero_eq, min_i64, max_i64, min_u8, max_u8, min_u16, max_u16, min_u32, max_u32, min_u64, max_u64, and_true, true_and]
  refine ⟨⟨_, _, _, rfl, rfl, rfl, fun r c h0 h1 _ => by omega⟩, ?_⟩
  rintro T x h0 h1 ⟨_, _, _, rfl, rfl, rfl, hT⟩
  refine ⟨fun h => ⟨by omega, by omega, by omega, ⟨_, _, _, rfl, rfl, rfl, ?_⟩, by omega, by omega⟩, fun h => ⟨⟨_, _, _, rfl, rfl, rfl, ?_⟩, ⟨_, _, _, rfl, rfl, rfl, ?_⟩⟩⟩
  · intro r c hr hx hc
    by_cases hrx : r = x
    · subst hrx
      match c, hc with
      | 0, _ => simp [tupd]
      | 1, _ => simp [tupd]
      | 2, _ => simp [tupd]
      | 3, _ => simp [tupd]
      | 4, _ => simp [tupd]
      | n + 5, hc => omega
    · simp only [tupd, hrx, false_and, if_false]
      exact hT r c hr (by omega) hc
  · intro r c hr hx hc
    exact (hT r c hr (by omega) hc).symm
  · intro r c hr hx hc
    have : r = 0 := by omega
    subst this
    match c, hc with
    | 0, _ => simp [tupd]
    | 1, _ => simp [tupd]
    | 2, _ => simp [tupd]
    | n + 3, hc => omega
theorem vVmNew : ∀ ds, Sorts cVmNew.sorts ds → tVmNew.vc I ds := fun _ _ => trivial
end Go.Mg
