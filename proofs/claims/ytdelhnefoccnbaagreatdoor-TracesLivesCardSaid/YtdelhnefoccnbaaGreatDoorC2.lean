/-
  The formulas of the contracts hold: bytes, names, numerals. Conditions: none; nothing here speaks of a program.
-/
import Derived.Test.YtdelhnefoccnbaaGreatDoorC1
import Derived.KernelRfl
namespace Go.Tt
open Go Go.Sx Go.Lib Go.Sf
variable {N : Nat}
theorem letterB_iff {b : UInt8} : letterB b = true ↔ LetI ((b.toNat : Nat) : Int) := by
  unfold letterB LetI
  simp only [Bool.or_eq_true, decide_eq_true_eq]
  omega
theorem nameB_iff {b : UInt8} : nameB b = true ↔ NamI ((b.toNat : Nat) : Int) := by
  unfold nameB NamI
  simp only [Bool.or_eq_true, decide_eq_true_eq, letterB_iff]
  unfold LetI
  omega
theorem nm_iff {s : Int} : NameP (sdec s) ↔ 1 ≤ slen s ∧ slen s ≤ 16 ∧ NmI s (slen s) := by
  unfold NameP NmI
  constructor
  · rintro ⟨h1, h2, h3, h4⟩
    refine ⟨by unfold slen; omega, by unfold slen; omega, fun j h0 hj => ?_⟩
    obtain ⟨c, hc, hm, he⟩ := sbyte_mem h0 hj
    rw [he]
    refine ⟨nameB_iff.1 (h4 c hm), fun hj0 => ?_⟩
    subst hj0
    exact letterB_iff.1 (h3 c (by rw [List.head?_eq_getElem?]; exact hc))
  · rintro ⟨h1, h2, h3⟩
    refine ⟨by unfold slen at h1; omega, by unfold slen at h2; omega, fun b hb => ?_, fun b hb => ?_⟩
    · rw [List.head?_eq_getElem?] at hb
      have h4 := (h3 0 (by omega) (by omega)).2 rfl
      have : sbyte s 0 = (b.toNat : Nat) := by unfold sbyte; rw [show ((0 : Int).toNat) = 0 from rfl, hb]; rfl
      rw [this] at h4
      exact letterB_iff.2 h4
    · obtain ⟨m, h0, h5, h6⟩ := mem_sbyte hb
      have h4 := (h3 m h0 h5).1
      rw [h6] at h4
      exact nameB_iff.2 h4
theorem name_bad {s n : Int} (h0 : 0 ≤ n) (h1 : n < slen s) (h : ¬ (NamI (sbyte s n) ∧ (n = 0 → LetI (sbyte s n)))) : nameF s = 0 := by
  unfold nameF
  rw [if_neg]
  intro hn
  exact h ((nm_iff.1 hn).2.2 n h0 h1)
theorem name_len {s : Int} (h : ¬ (1 ≤ slen s ∧ slen s ≤ 16)) : nameF s = 0 := by
  unfold nameF
  rw [if_neg]
  intro hn
  exact h ⟨(nm_iff.1 hn).1, (nm_iff.1 hn).2.1⟩
theorem name_end {s n : Int} (h : NmI s n) (hn : ¬ n < slen s) (h1 : 1 ≤ slen s) : nameF s = (if slen s ≤ 16 then (1 : Int) else 0) := by
  by_cases h2 : slen s ≤ 16
  · rw [if_pos h2]
    unfold nameF
    rw [if_pos (nm_iff.2 ⟨h1, h2, fun j h3 h4 => h j h3 (by omega)⟩)]
  · rw [if_neg h2]
    exact name_len fun h => h2 h.2
theorem nm_next {s n : Int} (h : NmI s n) (h1 : NamI (sbyte s n)) (h2 : n = 0 → LetI (sbyte s n)) : NmI s (n + 1) := by
  intro j h3 h4
  by_cases hj : j < n
  · exact h j h3 hj
  · obtain rfl : j = n := by omega
    exact ⟨h1, h2⟩
theorem or32 (s n : Int) : (97 ≤ bitsEv 1 IntKind.u8 (sbyte s n) 32 ∧ bitsEv 1 IntKind.u8 (sbyte s n) 32 ≤ 122) ↔ LetI (sbyte s n) := by
  unfold sbyte
  generalize ((sdec s)[n.toNat]?).getD 0 = b
  have h : ∀ b : Fin 256, (97 ≤ bitsEv 1 IntKind.u8 ((b.val : Nat) : Int) 32 ∧ bitsEv 1 IntKind.u8 ((b.val : Nat) : Int) 32 ≤ 122) ↔ LetI ((b.val : Nat) : Int) := by unfold LetI; decide +kernel
  exact h ⟨b.toNat, UInt8.toNat_lt b⟩
theorem vName : ∀ ds, Sorts (cName 76).sorts ds → tName.vc (TI N) ds := by
  refine all_i fun s => all_n ?_
  set_option linter.unusedSimpArgs false in
  simp (config := { maxSteps := 10000000 }) only [tName, e0, e1, e10, p11, e12, e13, e14, q15, e16, e17, e18, p19, q20, q21, q22, ν, κ, ο, γ, ω, ρ, χ, π, δ, ξ, υ, α, μ, β, η, τ, sln, fn1, fn2, z0, Tree.vc, PE.den, E.den, dens, BO.ev, List.getElem?_cons_zero, List.getElem?_cons_succ, List.cons_append, List.nil_append, Option.some.injEq, D.i.injEq, D.t.injEq, exists_eq_left', exists_const, forall_const, forall_eq', one_ne, one_eq, zero_ne, zero_eq, min_i64, max_i64, min_u8, max_u8, and_true, true_and, Decidable.not_not, S20, S1001, S1004, P40]
  intro hs
  refine ⟨slen_nonneg s, fun j h0 h1 => by omega, fun n h0 h1 h2 => ⟨fun h3 => ?_, fun h3 => ⟨fun h4 => name_end h2 h3 h4, fun h4 => name_len fun h => h4 h.1⟩⟩⟩
  have ho := or32 s n
  by_cases hL : LetI (sbyte s n)
  · have hn := nm_next h2 (.inl hL) (fun _ => hL)
    have ho := ho.2 hL
    repeat' with_reducible first | apply And.intro | intro _
    all_goals first | omega | exact hn
  · have ho : ¬ (97 ≤ bitsEv 1 IntKind.u8 (sbyte s n) 32 ∧ bitsEv 1 IntKind.u8 (sbyte s n) 32 ≤ 122) := fun h => hL (ho.1 h)
    have hb : (n = 0 ∨ ¬ ((48 ≤ sbyte s n ∧ sbyte s n ≤ 57) ∨ sbyte s n = 95)) → nameF s = 0 := fun h => name_bad h0 h3 fun hh => by
      rcases h with h | h
      · exact hL (hh.2 h)
      · rcases hh.1 with h4 | h4
        · exact hL h4
        · exact h h4
    have hn : n ≠ 0 → ((48 ≤ sbyte s n ∧ sbyte s n ≤ 57) ∨ sbyte s n = 95) → NmI s (n + 1) := fun h h4 => nm_next h2 (.inr h4) fun e => absurd e h
    repeat' with_reducible first | apply And.intro | intro _
    all_goals first | omega | exact hb (by omega) | exact hn (by omega) (by omega)
theorem vRName : ∀ ds, Sorts (cName 59).sorts ds → tRName.vc (TI N) ds := by
  refine all_i fun s => all_n ?_
  set_option linter.unusedSimpArgs false in
  simp (config := { maxSteps := 10000000 }) only [tRName, e0, e1, e10, p11, e12, e13, q15, e16, e17, e18, p19, q20, q21, e31, q327, q328, q329, q330, ν, κ, ο, γ, ω, ρ, χ, π, δ, ξ, υ, α, μ, β, η, τ, sln, fn1, fn2, z0, Tree.vc, PE.den, E.den, dens, BO.ev, List.getElem?_cons_zero, List.getElem?_cons_succ, List.cons_append, List.nil_append, Option.some.injEq, D.i.injEq, D.t.injEq, exists_eq_left', exists_const, forall_const, forall_eq', one_ne, one_eq, zero_ne, zero_eq, min_i64, max_i64, min_u8, max_u8, and_true, true_and, Decidable.not_not, S20, S1001, S1004, P40]
  intro hs
  have hs0 := slen_nonneg s
  have hb : ∀ n, 0 ≤ n → n < slen s → ¬ (((97 ≤ sbyte s n ∧ sbyte s n ≤ 122) ∨ (65 ≤ sbyte s n ∧ sbyte s n ≤ 90)) ∨ (n ≠ 0 ∧ ((48 ≤ sbyte s n ∧ sbyte s n ≤ 57) ∨ sbyte s n = 95))) → nameF s = 0 := fun n h0 h1 h => name_bad h0 h1 fun hh => by
    unfold NamI LetI at hh
    omega
  have hn : ∀ n, NmI s n → n ≠ 0 → ((97 ≤ sbyte s n ∧ sbyte s n ≤ 122) ∨ (65 ≤ sbyte s n ∧ sbyte s n ≤ 90)) ∨ ((48 ≤ sbyte s n ∧ sbyte s n ≤ 57) ∨ sbyte s n = 95) → NmI s (n + 1) := fun n h h1 h2 => nm_next h (by unfold NamI LetI; omega) fun e => absurd e h1
  have hz : ((97 ≤ sbyte s 0 ∧ sbyte s 0 ≤ 122) ∨ (65 ≤ sbyte s 0 ∧ sbyte s 0 ≤ 90)) → ∀ n, NmI s n → 0 ≤ n → ((97 ≤ sbyte s n ∧ sbyte s n ≤ 122) ∨ (65 ≤ sbyte s n ∧ sbyte s n ≤ 90)) ∨ ((48 ≤ sbyte s n ∧ sbyte s n ≤ 57) ∨ sbyte s n = 95) → NmI s (n + 1) := fun h0 n h h1 h2 => by
    by_cases hn0 : n = 0
    · subst hn0
      exact nm_next h (.inl (by unfold LetI; omega)) fun _ => by unfold LetI; omega
    · exact hn n h hn0 h2
  have he : ∀ n, NmI s n → ¬ n < slen s → 1 ≤ slen s → slen s ≤ 16 → nameF s = 1 := fun n h h1 h2 h3 => by rw [name_end h h1 h2, if_pos h3]
  have hl := @name_len s
  have h00 : NmI s 0 := fun j h0 h1 => by omega
  repeat' with_reducible first | apply And.intro | intro _
  all_goals first | omega | exact h00 | (refine hz (by omega) _ (by assumption) (by omega) (by omega)) | exact hb 0 (by omega) (by omega) (by omega) | exact hl (by omega) | (refine hb _ (by assumption) (by assumption) (by omega)) | (refine he _ (by assumption) (by assumption) (by omega) (by omega))
end Go.Tt
namespace Go.Tt
open Go Go.Sx Go.Lib Go.Sf
variable {N : Nat}
end Go.Tt
namespace Go.Tt
open Go Go.Sx Go.Lib Go.Sf
variable {N : Nat}
end Go.Tt
namespace Go.Tt
open Go Go.Sx Go.Lib Go.Sf
variable {N : Nat}
end Go.Tt
namespace Go.Tt
open Go Go.Sx Go.Lib Go.Sf
variable {N : Nat}
end Go.Tt
