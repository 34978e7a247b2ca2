/-
  Numerals, and texts of words with blanks between them: plain facts. Conditions: none.
-/
import Derived.Lib.ItoaLen
import Derived.Lib.ItoaMem
import Derived.Lib.SplitLaws
import Derived.Lib.ParseIntBTie
import Derived.Lib.ParseIntBCases
namespace Go.Sf
open Go Go.Lib

/-! ### Numerals -/

theorem dd_small {u : Nat} (h : u < 10) : decDigits u = [UInt8.ofNat (48 + u)] := by rw [decDigits, dif_pos h]
theorem dd_big {u : Nat} (h : ¬ u < 10) : decDigits u = decDigits (u / 10) ++ [UInt8.ofNat (48 + u % 10)] := by rw [decDigits, dif_neg h]
theorem dg_nat {d : Nat} (h : d < 10) : (UInt8.ofNat (48 + d)).toNat = 48 + d := by
  simp; omega
theorem dd_digit (u : Nat) : ∀ b ∈ decDigits u, 48 ≤ b.toNat ∧ b.toNat ≤ 57 := by
  induction u using Nat.strongRecOn with
  | _ u ih =>
    intro b hb
    by_cases h : u < 10
    · rw [dd_small h] at hb
      simp only [List.mem_singleton] at hb
      subst hb
      rw [dg_nat h]; omega
    · rw [dd_big h] at hb
      rcases List.mem_append.1 hb with hb | hb
      · exact ih (u / 10) (by omega) b hb
      · simp only [List.mem_singleton] at hb
        subst hb
        rw [dg_nat (Nat.mod_lt _ (by omega))]; omega
theorem dd_ne (u : Nat) : decDigits u ≠ [] := by
  by_cases h : u < 10
  · rw [dd_small h]; simp
  · rw [dd_big h]; simp
/-- No zero ahead. -/
theorem dd_head (u : Nat) (h0 : 1 ≤ u) : ∀ b, (decDigits u).head? = some b → b.toNat ≠ 48 := by
  induction u using Nat.strongRecOn with
  | _ u ih =>
    intro b hb
    by_cases h : u < 10
    · rw [dd_small h] at hb
      simp only [List.head?_cons, Option.some.injEq] at hb
      subst hb
      rw [dg_nat h]; omega
    · rw [dd_big h] at hb
      obtain ⟨c, r, hr⟩ := List.exists_cons_of_ne_nil (dd_ne (u / 10))
      rw [hr] at hb
      simp only [List.cons_append, List.head?_cons, Option.some.injEq] at hb
      subst hb
      exact ih (u / 10) (by omega) (by omega) c (by rw [hr]; rfl)

theorem itoa_small {n : Int} (h0 : 0 ≤ n) (h : n < 10) : itoa n = [UInt8.ofNat (48 + n.toNat)] := by
  unfold itoa; rw [if_neg (by omega), dd_small (by omega)]
theorem itoa_big {n : Int} (h : 10 ≤ n) : itoa n = itoa (n.tdiv 10) ++ itoa (n.tmod 10) := by
  obtain ⟨u, rfl⟩ := Int.eq_ofNat_of_zero_le (show 0 ≤ n by omega)
  have e1 : ((u : Int)).tdiv 10 = ((u / 10 : Nat) : Int) := by rw [Int.tdiv_eq_ediv_of_nonneg (by omega)]; rfl
  have e2 : ((u : Int)).tmod 10 = ((u % 10 : Nat) : Int) := by rw [Int.tmod_eq_emod_of_nonneg (by omega)]; rfl
  rw [e1, e2, itoa_nonneg, itoa_nonneg, itoa_nonneg, dd_big (by omega), dd_small (u := u % 10) (Nat.mod_lt _ (by omega))]
theorem itoa_negs {n : Int} (h0 : n < 0) (h : -10 < n) : itoa n = 45 :: itoa (-n) := by
  obtain ⟨u, hu⟩ := Int.eq_ofNat_of_zero_le (show 0 ≤ -n by omega)
  have : n = -(u : Int) := by omega
  rw [hu, this, itoa_nonneg, itoa_neg u (by omega)]
theorem itoa_negb {n : Int} (h : n ≤ -10) : itoa n = itoa (n.tdiv 10) ++ itoa (-(n.tmod 10)) := by
  obtain ⟨u, hu⟩ := Int.eq_ofNat_of_zero_le (show 0 ≤ -n by omega)
  have hn : n = -(u : Int) := by omega
  have e1 : n.tdiv 10 = -((u / 10 : Nat) : Int) := by rw [hn, Int.neg_tdiv, Int.tdiv_eq_ediv_of_nonneg (by omega)]; rfl
  have e2 : -(n.tmod 10) = ((u % 10 : Nat) : Int) := by rw [hn, Int.neg_tmod, Int.neg_neg, Int.tmod_eq_emod_of_nonneg (by omega)]; rfl
  rw [e1, e2, hn, itoa_neg u (by omega), itoa_neg (u / 10) (by omega), itoa_nonneg, dd_big (by omega), dd_small (u := u % 10) (Nat.mod_lt _ (by omega))]
  rfl
theorem itoa_ne (n : Int) : itoa n ≠ [] := by
  unfold itoa; split
  · simp
  · exact dd_ne _
theorem itoa_mem (n : Int) : ∀ b ∈ itoa n, b.toNat = 45 ∨ (48 ≤ b.toNat ∧ b.toNat ≤ 57) := by
  intro b hb
  unfold itoa at hb
  split at hb
  · rcases List.mem_cons.1 hb with rfl | hb
    · exact .inl rfl
    · exact .inr (dd_digit _ b hb)
  · exact .inr (dd_digit _ b hb)

/-- What digits say, behind a number. -/
def dstep (a : Nat) (c : UInt8) : Nat := a * 10 + (c.toNat - 48)
def dval (acc : Nat) (l : List UInt8) : Nat := l.foldl dstep acc
theorem dval_nil (acc : Nat) : dval acc [] = acc := rfl
theorem dval_cons (acc : Nat) (c : UInt8) (r : List UInt8) : dval acc (c :: r) = dval (acc * 10 + (c.toNat - 48)) r := List.foldl_cons
theorem dval_append (l m : List UInt8) (acc : Nat) : dval acc (l ++ m) = dval (dval acc l) m := List.foldl_append
theorem dval_ge : ∀ (l : List UInt8) (acc : Nat), acc ≤ dval acc l
  | [], _ => Nat.le_refl _
  | c :: l, acc => by
    have h := dval_ge l (acc * 10 + (c.toNat - 48))
    rw [dval_cons]
    omega
theorem dval_one (acc d : Nat) (h : d < 10) : dval acc [UInt8.ofNat (48 + d)] = acc * 10 + d := by
  rw [dval_cons, dval_nil, dg_nat h]
  omega
theorem dval_dd (u : Nat) : dval 0 (decDigits u) = u := by
  induction u using Nat.strongRecOn with
  | _ u ih =>
    by_cases h : u < 10
    · rw [dd_small h, dval_one 0 u h]; omega
    · rw [dd_big h, dval_append, ih (u / 10) (by omega), dval_one _ _ (Nat.mod_lt _ (by omega))]
      omega
theorem parseM_cons {M acc : Nat} {c : UInt8} {r : List UInt8} (h : 48 ≤ c.toNat ∧ c.toNat ≤ 57) : parseUintM M acc (c :: r) =
      if 1844674407370955162 ≤ acc then .range else if M < acc * 10 + (c.toNat - 48) then .range else parseUintM M (acc * 10 + (c.toNat - 48)) r := if_pos h
theorem room {M acc d x : Nat} (hM : M ≤ 18446744073709551615) (h1 : acc * 10 + d ≤ x) (h : x ≤ M) : acc < 1844674407370955162 := by omega
theorem parseM_ok {M : Nat} (hM : M ≤ 18446744073709551615) (l : List UInt8) : ∀ (acc : Nat), (∀ b ∈ l, 48 ≤ b.toNat ∧ b.toNat ≤ 57) → dval acc l ≤ M → parseUintM M acc l = .ok (dval acc l) := by
  induction l with
  | nil => exact fun _ _ _ => rfl
  | cons c l ih =>
    intro acc hd hle
    have hc := hd c (List.mem_cons_self ..)
    rw [dval_cons] at hle
    have h1 := dval_ge l (acc * 10 + (c.toNat - 48))
    have h2 : ¬ 1844674407370955162 ≤ acc := Nat.not_le.2 (room hM h1 hle)
    have h3 : ¬ M < acc * 10 + (c.toNat - 48) := Nat.not_lt.2 (Nat.le_trans h1 hle)
    rw [parseM_cons hc, dval_cons, if_neg h2, if_neg h3]
    exact ih _ (fun b hb => hd b (List.mem_cons_of_mem _ hb)) hle
theorem parse_itoa {n : Int} (h0 : -9223372036854775808 ≤ n) (h1 : n ≤ 9223372036854775807) : parseIntB 64 (itoa n) = .ok n := by
  have hU : ∀ u : Nat, u ≤ 18446744073709551615 → parseUintB 64 (decDigits u) = .ok u := fun u hu => by
    unfold parseUintB
    rw [if_neg (dd_ne u)]
    have := parseM_ok (M := 2 ^ 64 - 1) (by decide) (decDigits u) 0 (dd_digit u) (by rw [dval_dd]; exact hu)
    rw [dval_dd] at this
    exact this
  unfold itoa
  by_cases hn : n < 0
  · rw [if_pos hn]
    simp only [parseIntB]
    have e : (45 : UInt8).toNat = 45 := rfl
    rw [e, if_pos (.inr rfl), hU n.natAbs (by omega)]
    have h2 : ¬ (2 ^ (64 - 1) < n.natAbs) := by simp; omega
    simp only [not_true_eq_false, false_and, if_false, true_and, if_neg h2, if_true]
    congr 1; omega
  · rw [if_neg hn]
    have hne := dd_ne n.toNat
    have hd := dd_digit n.toNat
    have hu := hU n.toNat (by omega)
    generalize decDigits n.toNat = l at hne hd hu
    cases l with
    | nil => exact absurd rfl hne
    | cons c r =>
      have hc := hd c (by simp)
      simp only [parseIntB]
      rw [if_neg (by omega), hu]
      simp only
      rw [if_neg (by simp; omega), if_neg (by omega), if_neg (by omega)]
      congr 1; omega

/-! ### Blanks -/

theorem indexByte_at (c : UInt8) : ∀ (w rest : List UInt8), c ∉ w → indexByte (w ++ c :: rest) c = (w.length : Int)
  | [], rest, _ => by simp [indexByte]
  | b :: w, rest, h => by
    have h1 : b ≠ c := fun e => h (by simp [e])
    have h2 := indexByte_at c w rest (fun hm => h (by simp [hm]))
    simp [indexByte, h1, h2]
theorem indexByte_no (c : UInt8) : ∀ (w : List UInt8), c ∉ w → indexByte w c = -1
  | [], _ => by simp [indexByte]
  | b :: w, h => by
    have h1 : b ≠ c := fun e => h (by simp [e])
    have h2 := indexByte_no c w (fun hm => h (by simp [hm]))
    simp [indexByte, h1, h2]
theorem split_last {c : UInt8} {w : List UInt8} (h : c ∉ w) : split w [c] = [w] := by
  unfold split
  rw [count_one, List.count_eq_zero_of_not_mem h]
  rfl
theorem split_step {c : UInt8} {w rest : List UInt8} (h : c ∉ w) : split (w ++ c :: rest) [c] = w :: split rest [c] := by
  unfold split
  rw [count_one, count_one, List.count_append, List.count_eq_zero_of_not_mem h, List.count_cons_self, Nat.zero_add]
  simp only [splitK]
  rw [index_one, indexByte_at c w rest h]
  have h1 : ¬ (((w.length : Int) == -1) = true) := by simp
  rw [if_neg h1]
  simp
end Go.Sf
