/-
  The formulas of the contracts hold: places, numerals, bytes. Conditions: none; nothing here speaks of a program.
-/
import Derived.Test.YtbcclmpmljpbcaaGreatDoorSfSpec
import Derived.Test.YtbcclmpmljpbcaaGreatDoorSfT
import Derived.KernelRfl
namespace Go.Sf
open Go Go.Sx Go.Lib
variable {N : Nat}

theorem slen_nonneg (s : Int) : 0 ≤ slen s := by unfold slen; omega
theorem slen_zero {s : Int} (h : slen s = 0) : s = 0 := by
  have h1 : sdec s = [] := List.eq_nil_of_length_eq_zero (by simpa [slen] using h)
  have h2 : sdec 0 = [] := rfl
  exact sdec_inj (by rw [h1, h2])
theorem slen_pos {s : Int} (h : ¬ s = 0) : 0 < slen s := by
  have := slen_nonneg s
  rcases Int.lt_or_eq_of_le this with h1 | h1
  · exact h1
  · exact absurd (slen_zero h1.symm) h
theorem slen_senc (l : List UInt8) : slen (senc l) = (l.length : Nat) := by unfold slen; rw [sdec_senc]
theorem sbyte_mem {s n : Int} (h0 : 0 ≤ n) (h1 : n < slen s) : ∃ c, (sdec s)[n.toNat]? = some c ∧ c ∈ sdec s ∧ sbyte s n = (c.toNat : Nat) := by
  have hl : n.toNat < (sdec s).length := by unfold slen at h1; omega
  refine ⟨(sdec s)[n.toNat], List.getElem?_eq_getElem hl, List.getElem_mem hl, ?_⟩
  unfold sbyte
  rw [List.getElem?_eq_getElem hl]; rfl
theorem i64_of {n : Int} (h : -9223372036854775808 ≤ n ∧ n ≤ 9223372036854775807) : I64 n := h

theorem vFol : ∀ ds, Sorts (cFol 10).sorts ds → tFol.vc (SI N) ds := by
  refine all_i fun k => all_i fun i => all_i fun f => all_n ?_
  set_option linter.unusedSimpArgs false in
  simp only [tFol, Tree.vc, PE.den, E.den, dens, BO.ev, List.getElem?_cons_zero, List.getElem?_cons_succ, List.cons_append, List.nil_append, Option.some.injEq, D.i.injEq, D.t.injEq, exists_eq_left', exists_const, forall_const, forall_eq', one_ne, one_eq, zero_ne, zero_eq, min_i64, max_i64, min_u8, max_u8, and_true, true_and, Decidable.not_not, S1, S2, S3, S4, S5, S6, S7, S8, S9, S10, S11, S12, S1001, S1002, S1003, S1004, S1005, P10, P11, P12, P13, P14, P15, P16, P17, P18, P19, P20, P21, P22, P30]
  unfold fol fole
  grind
theorem vRFol : ∀ ds, Sorts (cFol 13).sorts ds → tRFol.vc (SI N) ds := by
  refine all_i fun k => all_i fun i => all_i fun f => all_n ?_
  set_option linter.unusedSimpArgs false in
  simp only [tRFol, Tree.vc, PE.den, E.den, dens, BO.ev, List.getElem?_cons_zero, List.getElem?_cons_succ, List.cons_append, List.nil_append, Option.some.injEq, D.i.injEq, D.t.injEq, exists_eq_left', exists_const, forall_const, forall_eq', one_ne, one_eq, zero_ne, zero_eq, min_i64, max_i64, min_u8, max_u8, and_true, true_and, Decidable.not_not, S1, S2, S3, S4, S5, S6, S7, S8, S9, S10, S11, S12, S1001, S1002, S1003, S1004, S1005, P10, P11, P12, P13, P14, P15, P16, P17, P18, P19, P20, P21, P22, P30]
  unfold fol fole
  repeat' first | apply And.intro | intro _
  all_goals grind

theorem text_bad {s n : Int} (h0 : 0 ≤ n) (h1 : n < slen s) (h : sbyte s n < 32 ∨ 126 < sbyte s n) (b : Int) : TextP s b := by
  intro _ hc
  obtain ⟨c, _, h2, h3⟩ := sbyte_mem h0 h1
  have := hc c h2
  omega
theorem text_end (s : Int) : TextP s (if slen s ≤ 200 then 1 else 0) := by
  intro hl _
  unfold slen
  rw [if_pos (by omega)]; decide
theorem vText : ∀ ds, Sorts cText.sorts ds → tText.vc (SI N) ds := by
  refine all_i fun s => all_n ?_
  set_option linter.unusedSimpArgs false in
  simp only [tText, Tree.vc, PE.den, E.den, dens, BO.ev, List.getElem?_cons_zero, List.getElem?_cons_succ, List.cons_append, List.nil_append, Option.some.injEq, D.i.injEq, D.t.injEq, exists_eq_left', exists_const, forall_const, forall_eq', one_ne, one_eq, zero_ne, zero_eq, min_i64, max_i64, min_u8, max_u8, and_true, true_and, Decidable.not_not, S1, S2, S3, S4, S5, S6, S7, S8, S9, S10, S11, S12, S1001, S1002, S1003, S1004, S1005, P10, P11, P12, P13, P14, P15, P16, P17, P18, P19, P20, P21, P22, P30]
  have := slen_nonneg s
  intro h
  refine ⟨this, fun n h0 h1 => ⟨fun h2 => ⟨fun h3 => text_bad h0 h2 (.inl h3) 0, fun h3 => ⟨fun h4 => text_bad h0 h2 (.inr h4) 0, fun h4 => ?_⟩⟩, fun _ => text_end s⟩⟩
  omega

/-! ### Numerals -/

theorem dash : sdec 23 = [45] := rfl
theorem trim_of {s m : Int} (hs : sdec s = itoa m) : sdec (trimS s 23) = decDigits m.natAbs := by
  unfold trimS; rw [sdec_senc, dash, hs, trim_itoa]
theorem int_dig {s n : Int} (h0 : 0 ≤ n) (h1 : n < slen (trimS s 23)) (h : ¬ 48 ≤ sbyte (trimS s 23) n ∨ ¬ sbyte (trimS s 23) n ≤ 57) (a b : Int) : IntP s a b := by
  intro m hm hs
  obtain ⟨c, _, h2, h3⟩ := sbyte_mem h0 h1
  rw [trim_of hs] at h2
  have := dd_digit _ c h2
  omega
theorem int_empty {s : Int} (h : trimS s 23 = 0) (a b : Int) : IntP s a b := by
  intro m hm hs
  have h1 := trim_of hs
  rw [h] at h1
  exact absurd h1.symm (dd_ne _)
theorem int_zero {s : Int} (h0 : 0 < slen (trimS s 23)) (h : sbyte (trimS s 23) 0 = 48) (h2 : 1 < slen (trimS s 23) ∨ hpre s 23 ≠ 0) (a b : Int) : IntP s a b := by
  intro m hm hs
  obtain ⟨c, h3, _, h4⟩ := sbyte_mem (Int.le_refl 0) h0
  have h5 : (decDigits m.natAbs)[0]? = some c := by rw [← trim_of hs]; exact h3
  have h6 := dd_zero h5 (by omega)
  have h7 : m = 0 := by omega
  subst h7
  rcases h2 with h2 | h2
  · have h8 : slen (trimS s 23) = 1 := by
      unfold slen; rw [trim_of hs]; rw [dd_small (by decide)]; rfl
    omega
  · apply absurd ?_ h2
    unfold hpre
    rw [dash, hs, pre_itoa]
    rfl
theorem int_err {s : Int} (h : ¬ perrL (sdec s) = 0) (a b : Int) : IntP s a b := by
  intro m hm hs
  apply absurd ?_ h
  unfold perrL
  rw [hs, parse_itoa hm.1 hm.2]
theorem int_ok (s : Int) : IntP s (pintL (sdec s)) 0 := by
  intro m hm hs
  refine ⟨?_, rfl⟩
  unfold pintL
  rw [hs, parse_itoa hm.1 hm.2]
theorem trim_len (s p : Int) : slen (trimS s p) ≤ slen s := by
  unfold trimS
  rw [slen_senc]
  unfold Lib.trimPrefix slen
  split
  · rw [List.length_drop]; omega
  · omega
theorem vInt : ∀ ds, Sorts (cInt 29).sorts ds → tInt.vc (SI N) ds := by
  refine all_i fun s => all_n ?_
  set_option linter.unusedSimpArgs false in
  simp only [tInt, Tree.vc, PE.den, E.den, dens, BO.ev, List.getElem?_cons_zero, List.getElem?_cons_succ, List.cons_append, List.nil_append, Option.some.injEq, D.i.injEq, D.t.injEq, exists_eq_left', exists_const, forall_const, forall_eq', one_ne, one_eq, zero_ne, zero_eq, min_i64, max_i64, min_u8, max_u8, and_true, true_and, Decidable.not_not, S1, S2, S3, S4, S5, S6, S7, S8, S9, S10, S11, S12, S1001, S1002, S1003, S1004, S1005, P10, P11, P12, P13, P14, P15, P16, P17, P18, P19, P20, P21, P22, P30]
  intro hs _ _ _ _
  have hn := slen_nonneg (trimS s 23)
  have htl := trim_len s 23
  have key : slen s ≤ 1000000 ∧ ∀ (n n_2 : Int), pintL (sdec s) = n → perrL (sdec s) = n_2 → -9223372036854775808 ≤ pintL (sdec s) ∧ pintL (sdec s) ≤ 9223372036854775807 →
      (¬perrL (sdec s) = 0 → IntP s 0 7) ∧ (perrL (sdec s) = 0 → (pintL (sdec s) < -9223372036854775808 → IntP s 0 7) ∧ (¬pintL (sdec s) < -9223372036854775808 →
        (9223372036854775807 < pintL (sdec s) → IntP s 0 7) ∧ (¬9223372036854775807 < pintL (sdec s) → IntP s (pintL (sdec s)) 0))) :=
    ⟨by omega, fun _ _ _ _ hr => ⟨fun h => int_err h 0 7, fun _ => ⟨fun h => by omega, fun _ => ⟨fun h => by omega, fun _ => int_ok s⟩⟩⟩⟩
  refine ⟨hn, fun n h0 h1 => ⟨fun h2 => ⟨fun h3 => ⟨fun h4 => int_dig h0 h2 (.inr h4) 0 6, fun h4 => by omega⟩, fun h3 => int_dig h0 h2 (.inl h3) 0 6⟩, fun h2 => ⟨fun h3 => int_empty h3 0 6, fun h3 => ?_⟩⟩⟩
  have h4 := slen_pos h3
  exact ⟨h4, fun h5 => ⟨fun h6 => int_zero h4 h5 (.inl h6) 0 6, fun _ => ⟨fun h6 => int_zero h4 h5 (.inr h6) 0 6, fun _ => key⟩⟩, fun _ => key⟩

theorem q10 {n : Int} (h : I64 n) : bitsEv 6 IntKind.i64 n 10 = n.tdiv 10 := by
  obtain ⟨h0, h1⟩ := h
  show IntKind.i64.wrap (n.tdiv 10) = _
  refine w64 ?_
  rcases Int.le_total 0 n with h2 | h2
  · rw [Int.tdiv_eq_ediv_of_nonneg h2]; omega
  · obtain ⟨u, hu⟩ := Int.eq_ofNat_of_zero_le (show 0 ≤ -n by omega)
    have hn : n = -(u : Int) := by omega
    rw [hn, Int.neg_tdiv, Int.tdiv_eq_ediv_of_nonneg (by omega)]; omega
theorem tdiv_rng {n : Int} (h : I64 n) : I64 (n.tdiv 10) := by
  obtain ⟨h0, h1⟩ := h
  rcases Int.le_total 0 n with h2 | h2
  · rw [Int.tdiv_eq_ediv_of_nonneg h2]; constructor <;> omega
  · obtain ⟨u, hu⟩ := Int.eq_ofNat_of_zero_le (show 0 ≤ -n by omega)
    have hn : n = -(u : Int) := by omega
    rw [hn, Int.neg_tdiv, Int.tdiv_eq_ediv_of_nonneg (by omega)]; constructor <;> omega
theorem tmod_rng (n : Int) : -10 < n.tmod 10 ∧ n.tmod 10 < 10 := by
  rcases Int.le_total 0 n with h2 | h2
  · rw [Int.tmod_eq_emod_of_nonneg h2]; omega
  · obtain ⟨u, hu⟩ := Int.eq_ofNat_of_zero_le (show 0 ≤ -n by omega)
    have hn : n = -(u : Int) := by omega
    rw [hn, Int.neg_tmod, Int.tmod_eq_emod_of_nonneg (by omega)]; omega
theorem scat_senc (l m : List UInt8) : scat (senc l) (senc m) = senc (l ++ m) := by unfold scat; rw [sdec_senc, sdec_senc]
theorem slen_itoa {n : Int} (h : I64 n) : slen (senc (itoa n)) ≤ 20 := by
  rw [slen_senc]
  have := itoa_len h
  omega
theorem vRDig : ∀ ds, Sorts (cRDig 21).sorts ds → tRDig.vc (SI N) ds := by
  refine all_i fun n => all_n ?_
  set_option linter.unusedSimpArgs false in
  simp only [tRDig, Tree.vc, PE.den, E.den, dens, BO.ev, List.getElem?_cons_zero, List.getElem?_cons_succ, List.cons_append, List.nil_append, Option.some.injEq, D.i.injEq, D.t.injEq, exists_eq_left', exists_const, forall_const, forall_eq', one_ne, one_eq, zero_ne, zero_eq, min_i64, max_i64, min_u8, max_u8, and_true, true_and, Decidable.not_not, S1, S2, S3, S4, S5, S6, S7, S8, S9, S10, S11, S12, S1001, S1002, S1003, S1004, S1005, P10, P11, P12, P13, P14, P15, P16, P17, P18, P19, P20, P21, P22, P30]
  intro hn hN
  have hn' : I64 n := hn
  rw [q10 hn']
  have r1 := tdiv_rng hn'
  have r2 := tmod_rng n
  have r2' : I64 (n.tmod 10) := ⟨by omega, by omega⟩
  have r3 : I64 (0 - n.tmod 10) := ⟨by omega, by omega⟩
  refine ⟨fun h0 => ⟨fun h1 => ?_, fun h1 => ?_⟩, fun h0 => ⟨fun h1 => ?_, fun h1 => ?_⟩⟩
  · have e : (0 : Int) - n = -n := by omega
    have r4 : I64 (-n) := ⟨by omega, by omega⟩
    rw [e]
    have := dep_negs h0 h1
    have hl := slen_itoa r4
    refine ⟨r4, by omega, by omega, ?_⟩
    rw [itoa_negs h0 h1]
    unfold scat
    rw [dash, sdec_senc]; rfl
  · have := dep_negb (n := n) (by omega)
    have e : (0 : Int) - n.tmod 10 = -(n.tmod 10) := by omega
    rw [e] at r3 ⊢
    have hl := slen_itoa r1
    have hl2 := slen_itoa r3
    refine ⟨r1, by omega, r3, by omega, by omega, ?_⟩
    rw [scat_senc, ← itoa_negb (by omega)]
  · refine ⟨⟨by omega, by omega⟩, ⟨_, _, rfl, rfl, fun i hi => ?_⟩, ?_⟩
    · have : (i : Int) = 0 := by omega
      simp only [tupd, this, and_self, if_true]
      rw [w8 (by omega)]; omega
    · rw [itoa_small (by omega) h1]
      unfold scode
      congr 1
      simp only [Int.toNat_one, List.range_one, List.map_cons, List.map_nil, tupd, Int.natCast_zero, and_self, if_true]
      rw [w8 (by omega)]
      congr 2; omega
  · have := dep_big (n := n) (by omega)
    have hl := slen_itoa r1
    have hl2 := slen_itoa r2'
    refine ⟨r1, by omega, r2', by omega, by omega, ?_⟩
    rw [scat_senc, ← itoa_big (by omega)]
end Go.Sf

namespace Go.Sf
open Go Go.Sx Go.Lib
variable {N : Nat}

/-! ### Whole numerals -/

/-- The bytes of a numeral, behind its sign. -/
theorem whole_dig {s m n : Int} (hs : sdec s = itoa m) (h0 : 0 ≤ n) (h1 : n < slen s) (h : 1 ≤ n ∨ ¬ sbyte s 0 = 45) : 48 ≤ sbyte s n ∧ sbyte s n ≤ 57 := by
  obtain ⟨c, h2, h3, h4⟩ := sbyte_mem h0 h1
  rw [hs] at h2
  by_cases hm : m < 0
  · unfold itoa at h2
    rw [if_pos hm] at h2
    by_cases hn : n = 0
    · exfalso
      subst hn
      have hc : c = 45 := by simpa using h2.symm
      subst hc
      rcases h with h | h
      · omega
      · exact h h4
    · obtain ⟨k, hk⟩ : ∃ k : Nat, n.toNat = k + 1 := ⟨n.toNat - 1, by omega⟩
      rw [hk, List.getElem?_cons_succ] at h2
      have := dd_digit _ c (List.mem_of_getElem? h2)
      omega
  · unfold itoa at h2
    rw [if_neg hm] at h2
    have := dd_digit _ c (List.mem_of_getElem? h2)
    omega
/-- A zero behind the sign is all. -/
theorem whole_zero {s m : Int} (hs : sdec s = itoa m) (q : Int) (hq : q = (if m < 0 then 1 else 0)) (h1 : q < slen s) (h : sbyte s q = 48) : ¬ q + 1 < slen s ∧ m = 0 := by
  have hq0 : 0 ≤ q := by rw [hq]; split <;> omega
  obtain ⟨c, h2, _, h4⟩ := sbyte_mem hq0 h1
  rw [hs] at h2
  have h5 : (decDigits m.natAbs)[0]? = some c := by
    unfold itoa at h2
    by_cases hm : m < 0
    · rw [if_pos hm] at hq h2
      subst hq
      simpa using h2
    · rw [if_neg hm] at hq h2
      subst hq
      have : m.toNat = m.natAbs := by omega
      rw [this] at h2
      simpa using h2
  have h6 := dd_zero h5 (by omega)
  have h7 : m = 0 := by omega
  subst h7
  refine ⟨?_, rfl⟩
  simp at hq
  subst hq
  unfold slen
  rw [hs]
  unfold itoa
  rw [if_neg (by omega), dd_small (by decide)]
  simp
theorem sign_of {s m : Int} (hs : sdec s = itoa m) : (sbyte s 0 = 45 ↔ m < 0) := by
  unfold sbyte
  rw [hs]
  unfold itoa
  by_cases hm : m < 0
  · rw [if_pos hm]; simp [hm]
  · rw [if_neg hm]
    have hd := dd_digit m.toNat
    have hne := dd_ne m.toNat
    generalize decDigits m.toNat = l at hd hne
    cases l with
    | nil => exact absurd rfl hne
    | cons c r =>
      have hc := hd c (by simp)
      simp [hm]
      omega
theorem len_of {s m : Int} (hs : sdec s = itoa m) : (if m < 0 then (1 : Int) else 0) < slen s := by
  unfold slen
  rw [hs]
  unfold itoa
  by_cases hm : m < 0
  · rw [if_pos hm, if_pos hm]
    have := List.length_pos_iff.2 (dd_ne m.natAbs)
    simp only [List.length_cons]; omega
  · rw [if_neg hm, if_neg hm]
    have := List.length_pos_iff.2 (dd_ne m.toNat)
    omega
theorem no_minus0 {s m : Int} (hs : sdec s = itoa m) : ¬ s = 6295 := by
  intro h
  subst h
  have e : sdec 6295 = [45, 48] := rfl
  rw [e] at hs
  have h1 : m < 0 := by
    have := (sign_of (s := 6295) (by rw [e]; exact hs)).1 rfl
    exact this
  have h2 : decDigits m.natAbs = [48] := by
    unfold itoa at hs
    rw [if_pos h1] at hs
    simpa using hs.symm
  have := dd_zero (u := m.natAbs) (b := 48) (by rw [h2]; rfl) rfl
  omega
theorem vWhole : ∀ ds, Sorts cWhole.sorts ds → tWhole.vc (SI N) ds := by
  refine all_i fun s => all_n ?_
  set_option linter.unusedSimpArgs false in
  simp only [tWhole, Tree.vc, PE.den, E.den, dens, BO.ev, List.getElem?_cons_zero, List.getElem?_cons_succ, List.cons_append, List.nil_append, Option.some.injEq, D.i.injEq, D.t.injEq, exists_eq_left', exists_const, forall_const, forall_eq', one_ne, one_eq, zero_ne, zero_eq, min_i64, max_i64, min_u8, max_u8, and_true, true_and, Decidable.not_not, S1, S2, S3, S4, S5, S6, S7, S8, S9, S10, S11, S12, S1001, S1002, S1003, S1004, S1005, P10, P11, P12, P13, P14, P15, P16, P17, P18, P19, P20, P21, P22, P30]
  intro hl
  have hn := slen_nonneg s
  have neg : sbyte s 0 = 45 → ∀ m, sdec s = itoa m → m < 0 := fun h m hs => (sign_of hs).1 h
  have pos : ¬ sbyte s 0 = 45 → ∀ m, sdec s = itoa m → ¬ m < 0 := fun h m hs hm => h ((sign_of hs).2 hm)
  refine ⟨fun h0 => ⟨fun hq => ⟨by omega, fun n h1 h2 => ⟨fun h3 => ⟨by omega, fun h4 => ⟨fun h5 m _ hs => ?_, fun _ => by omega⟩, fun h4 m _ hs => ?_⟩, fun h3 => ⟨fun h4 m _ hs => ?_, fun h4 => ⟨by omega, fun h5 => ⟨fun h6 m _ hs => ?_, fun _ m _ hs => no_minus0 hs⟩, fun _ m _ hs => no_minus0 hs⟩⟩⟩⟩,
    fun hq => ⟨hn, fun n h1 h2 => ⟨fun h3 => ⟨fun h4 => ⟨fun h5 m _ hs => ?_, fun _ => by omega⟩, fun h4 m _ hs => ?_⟩, fun h3 => ⟨fun h4 => by omega, fun h4 => ⟨fun h5 => ⟨fun h6 m _ hs => ?_, fun _ m _ hs => no_minus0 hs⟩, fun _ m _ hs => no_minus0 hs⟩⟩⟩⟩⟩, fun h0 => ⟨hn, fun n h1 h2 => ⟨fun h3 => by omega, fun h3 => ⟨fun h4 m _ hs => ?_, fun h4 => by omega⟩⟩⟩⟩
  · exact absurd (whole_dig hs (by omega) h3 (.inl h1)).2 h5
  · exact absurd (whole_dig hs (by omega) h3 (.inl h1)).1 h4
  · have := len_of hs
    rw [if_pos (neg hq m hs)] at this
    omega
  · have hm := neg hq m hs
    have := (whole_zero hs 1 (by rw [if_pos hm]) (by omega) h5).2
    omega
  · exact absurd (whole_dig hs h1 h3 (.inr hq)).2 h5
  · exact absurd (whole_dig hs h1 h3 (.inr hq)).1 h4
  · have hm := pos hq m hs
    have := (whole_zero hs 0 (by rw [if_neg hm]) (by omega) h5).1
    omega
  · have := len_of hs
    split at this <;> omega

/-! ### Digit by digit -/

theorem wrap_rng64 (x : Int) : I64 (IntKind.i64.wrap x) := by
  unfold I64
  simp only [IntKind.wrap, IntKind.signed, IntKind.bits, Int.reducePow, Bool.true_and]
  split
  · rename_i h; simp at h; omega
  · rename_i h; simp at h; omega
theorem acc_rng (l : List UInt8) : ∀ i, I64 (accL l i)
  | 0 => ⟨by simp [accL], by simp [accL]⟩
  | i + 1 => by
    simp only [accL]
    split
    · exact wrap_rng64 _
    · exact acc_rng l i
theorem acc_step {s n : Int} (h0 : 0 ≤ n) : accL (sdec s) (n + 1).toNat =
    if 48 ≤ sbyte s n ∧ sbyte s n ≤ 57 then IntKind.i64.wrap (IntKind.i64.wrap (10 * accL (sdec s) n.toNat) + if sbyte s 0 = 45 then -IntKind.i64.wrap (IntKind.u8.wrap (sbyte s n - 48)) else IntKind.i64.wrap (IntKind.u8.wrap (sbyte s n - 48)))
    else accL (sdec s) n.toNat := by
  have : (n + 1).toNat = n.toNat + 1 := by omega
  rw [this]
  rfl
theorem int_long {s : Int} (h : 20 < slen s) (a b : Int) : IntP s a b := by
  intro m hm hs
  have := itoa_len hm
  unfold slen at h
  rw [hs] at h
  omega
theorem vRInt : ∀ ds, Sorts (cInt 36).sorts ds → tRInt.vc (SI N) ds := by
  refine all_i fun s => all_n ?_
  set_option linter.unusedSimpArgs false in
  simp only [tRInt, Tree.vc, PE.den, E.den, dens, BO.ev, List.getElem?_cons_zero, List.getElem?_cons_succ, List.cons_append, List.nil_append, Option.some.injEq, D.i.injEq, D.t.injEq, exists_eq_left', exists_const, forall_const, forall_eq', one_ne, one_eq, zero_ne, zero_eq, min_i64, max_i64, min_u8, max_u8, and_true, true_and, Decidable.not_not, S1, S2, S3, S4, S5, S6, S7, S8, S9, S10, S11, S12, S1001, S1002, S1003, S1004, S1005, P10, P11, P12, P13, P14, P15, P16, P17, P18, P19, P20, P21, P22, P30]
  intro hl w hw
  have hn := slen_nonneg s
  refine ⟨fun h m hm hs => absurd h (hw m hm hs), fun _ => ⟨fun h => int_long h 0 7, fun h20 => ⟨hn, rfl, ?_⟩⟩⟩
  rintro n _ h0 h1 rfl
  have hst := acc_step (s := s) h0
  have hb : 0 ≤ sbyte s n ∧ sbyte s n ≤ 255 := by
    unfold sbyte
    have := (((sdec s)[n.toNat]?).getD 0).toNat_lt
    omega
  have hacc := acc_rng (sdec s) n.toNat
  have w1 : n < slen s → IntKind.i64.wrap (n + 1) = n + 1 := fun h => w64 (by omega)
  refine ⟨fun h2 => ?_, fun h2 => ?_⟩
  · rw [w1 h2, hst]
    refine ⟨fun h3 => ⟨fun h4 => ⟨by omega, fun h5 => ?_, fun h5 => ?_⟩, fun h4 => ?_⟩, fun h3 => ?_⟩
    · have e := w8 (x := sbyte s n - 48) (by omega)
      have e2 := w64 (x := sbyte s n - 48) (by omega)
      rw [if_pos ⟨h3, h4⟩, if_pos h5, e, e2, Int.zero_sub]
      exact ⟨by omega, by omega, by omega, rfl, by omega, by omega⟩
    · rw [if_pos ⟨h3, h4⟩, if_neg h5]
      exact ⟨by omega, by omega, rfl, by omega, by omega⟩
    · rw [if_neg (by omega)]
      exact ⟨by omega, by omega, rfl, by omega, by omega⟩
    · rw [if_neg (by omega)]
      exact ⟨by omega, by omega, rfl, by omega, by omega⟩
  · have hN : n.toNat = (sdec s).length := by
      have h3 : n = slen s := by omega
      rw [h3]; unfold slen; omega
    refine ⟨hacc, fun h3 m hm hs => ?_, fun _ => ⟨fun h => absurd hacc.1 (by omega), fun _ => ⟨fun h => absurd hacc.2 (by omega), fun _ m hm hs => ?_⟩⟩⟩
    · apply absurd ?_ h3
      rw [hN, hs, accL_itoa hm, ← hs, senc_sdec]
    · rw [hN, hs, accL_itoa hm]
      exact ⟨rfl, rfl⟩

/-! ### Fields -/

theorem slen_scat (a b : Int) : slen (scat a b) = slen a + slen b := by
  unfold scat
  rw [slen_senc, List.length_append]
  unfold slen
  omega
theorem slen_ssub (a i j : Int) : slen (ssub a i j) ≤ ((j.toNat - i.toNat : Nat) : Int) ∧ slen (ssub a i j) ≤ slen a := by
  unfold ssub
  rw [slen_senc]
  have h1 := List.length_take_le (j.toNat - i.toNat) ((sdec a).drop i.toNat)
  have h2 : (((sdec a).drop i.toNat).take (j.toNat - i.toNat)).length ≤ ((sdec a).drop i.toNat).length := List.length_take_le' _ _
  rw [List.length_drop] at h2
  unfold slen
  omega
theorem slen_0 : slen 0 = 0 := rfl
theorem vUnq : ∀ ds, Sorts cUnq.sorts ds → tUnq.vc (SI N) ds := by
  refine all_i fun s => all_n ?_
  set_option linter.unusedSimpArgs false in
  simp only [tUnq, Tree.vc, PE.den, E.den, dens, BO.ev, List.getElem?_cons_zero, List.getElem?_cons_succ, List.cons_append, List.nil_append, Option.some.injEq, D.i.injEq, D.t.injEq, exists_eq_left', exists_const, forall_const, forall_eq', one_ne, one_eq, zero_ne, zero_eq, min_i64, max_i64, min_u8, max_u8, and_true, true_and, Decidable.not_not, S1, S2, S3, S4, S5, S6, S7, S8, S9, S10, S11, S12, S1001, S1002, S1003, S1004, S1005, P10, P11, P12, P13, P14, P15, P16, P17, P18, P19, P20, P21, P22, P30]
  intro hl
  have hn := slen_nonneg s
  rw [slen_0]
  refine ⟨by omega, fun h2 => ⟨by omega, fun _ => by omega, fun hq => ⟨by omega, by omega, by omega, fun _ => by omega, fun _ => ⟨by omega, by omega, fun n o h3 h4 h5 => ?_⟩⟩⟩⟩
  have hs := (slen_ssub s n (n + 1)).1
  have hs1 : slen (ssub s n (n + 1)) ≤ 1 := by omega
  have hsn := slen_nonneg (ssub s n (n + 1))
  rw [slen_scat]
  repeat' first | omega | apply And.intro | intro _ | trivial

theorem vRight : ∀ ds, Sorts cRight.sorts ds → tRight.vc (SI N) ds := by
  refine all_i fun q => all_i fun s => all_n ?_
  set_option linter.unusedSimpArgs false in
  simp only [tRight, Tree.vc, PE.den, E.den, dens, BO.ev, List.getElem?_cons_zero, List.getElem?_cons_succ, List.cons_append, List.nil_append, Option.some.injEq, D.i.injEq, D.t.injEq, exists_eq_left', exists_const, forall_const, forall_eq', one_ne, one_eq, zero_ne, zero_eq, min_i64, max_i64, min_u8, max_u8, and_true, true_and, Decidable.not_not, S1, S2, S3, S4, S5, S6, S7, S8, S9, S10, S11, S12, S1001, S1002, S1003, S1004, S1005, P10, P11, P12, P13, P14, P15, P16, P17, P18, P19, P20, P21, P22, P30]
  intro hl
  have hn := slen_nonneg s
  have ok : ∀ n, TextP s n → RightP q s n := fun n h _ _ h2 h3 => h h2 fun c hc => by have := h3 c hc; omega
  have bad : ∀ n, 0 ≤ n → n < slen s → (sbyte s n = 32 ∨ sbyte s n = 34) → RightP q s 0 := fun n h0 h1 h2 _ _ _ h4 => by
    obtain ⟨c, _, h5, h6⟩ := sbyte_mem h0 h1
    have := h4 c h5
    omega
  refine ⟨fun _ n h => ok n h, fun _ => ⟨fun h _ hne => ?_, fun _ => ⟨hn, fun n h0 h1 => ⟨fun h2 => ⟨fun h3 => bad n h0 h2 (.inl h3), fun _ => ⟨fun h3 => bad n h0 h2 (.inr h3), fun _ => by omega⟩⟩, fun _ n h => ok n h⟩⟩⟩⟩
  exact absurd (List.eq_nil_of_length_eq_zero (by simpa [slen] using h)) hne

theorem vEnd : ∀ ds, Sorts cEnd.sorts ds → tEnd.vc (SI N) ds := by
  refine all_i fun s => all_i fun a => all_n ?_
  set_option linter.unusedSimpArgs false in
  simp only [tEnd, Tree.vc, PE.den, E.den, dens, BO.ev, List.getElem?_cons_zero, List.getElem?_cons_succ, List.cons_append, List.nil_append, Option.some.injEq, D.i.injEq, D.t.injEq, exists_eq_left', exists_const, forall_const, forall_eq', one_ne, one_eq, zero_ne, zero_eq, min_i64, max_i64, min_u8, max_u8, and_true, true_and, Decidable.not_not, S1, S2, S3, S4, S5, S6, S7, S8, S9, S10, S11, S12, S1001, S1002, S1003, S1004, S1005, P10, P11, P12, P13, P14, P15, P16, P17, P18, P19, P20, P21, P22, P30]
  intro hl h0 h1
  refine ⟨fun hq => ?_, fun hq => ?_⟩
  · have nb : ∀ n, NoB s a n := fun n h => absurd hq h
    have ep : ∀ n, EndP s a n := fun n h => absurd hq h
    refine ⟨by omega, by omega, by omega, nb _, fun n h2 h3 _ => ⟨fun h4 => ⟨by omega, fun _ => ⟨by omega, fun _ => ⟨by omega, by omega, ep _⟩, fun _ => ⟨by omega, by omega, fun _ => ⟨by omega, by omega, ep _⟩, fun _ => ⟨by omega, by omega, by omega, nb _, by omega, by omega⟩⟩⟩, fun _ => ⟨by omega, by omega, by omega, nb _, by omega, by omega⟩⟩, fun _ => ⟨by omega, by omega, ep _⟩⟩⟩
  · refine ⟨by omega, by omega, fun _ j h2 h3 => by omega, fun n h2 h3 h4 => ⟨fun h5 => ⟨by omega, fun h6 => ?_, fun h6 => ?_⟩, fun h5 => ?_⟩⟩
    · first
        | exact fun hq' => ⟨h4 hq', .inr h6⟩
        | exact ⟨by omega, by omega, fun hq' => ⟨h4 hq', .inr h6⟩⟩
    · refine ⟨by omega, by omega, by omega, fun hq' j h7 h8 => ?_, by omega, by omega⟩
      by_cases hj : j = n
      · subst hj; exact h6
      · exact h4 hq' j h7 (by omega)
    · have : n = slen s := by omega
      subst this
      first
        | exact ⟨by omega, fun hq' => ⟨h4 hq', .inl rfl⟩⟩
        | exact ⟨by omega, by omega, fun hq' => ⟨h4 hq', .inl rfl⟩⟩

/-- What has been read so far, and a field more. -/
theorem spl_next {s a : Int} {T : Tb} {n : Int} (hI : SplI s a T n) (h0 : 0 ≤ a) (h1 : a < slen s) (_hn : 0 ≤ n) {r : Int} (hr1 : a ≤ r) (hr2 : r ≤ slen s) (hE : EndP s a r) (q x : Int)
    (hq : sbyte s a ≠ 34 → q = 0 ∧ x = ssub s a r) : SplI s (r + 1) (tupd (tupd T n 0 q) n 1 x) (n + 1) := by
  intro ws hB hs
  obtain ⟨k, w, hC⟩ := core hI h0 h1 hB hs
  obtain ⟨e1, e2, e3, e4⟩ := hC.fin r hr1 hr2 hE
  obtain ⟨rfl, rfl⟩ := hq hC.quote
  have hk : k < ws.length := (List.getElem?_eq_some_iff.1 hC.here).1
  refine ⟨k + 1, by rw [hC.num]; rfl, hk, ?_, ?_⟩
  · intro j hj
    by_cases hjn : (j : Int) = n
    · have hjk : j = k := by have := hC.num; omega
      subst hjk
      refine ⟨by simp [tupd, hjn], fun w' hw' => ?_⟩
      rw [hC.here] at hw'
      simp only [Option.some.injEq] at hw'
      subst hw'
      simp [tupd, hjn, e2]
    · have := hC.rows j (by omega)
      refine ⟨by simp [tupd, hjn, this.1], fun w' hw' => ?_⟩
      simp [tupd, hjn, this.2 w' hw']
  · by_cases hk1 : k + 1 < ws.length
    · rw [if_pos hk1]
      have hlt : r < slen s := by
        rcases Int.lt_or_eq_of_le hr2 with h | h
        · exact h
        · have := e4 h; omega
      obtain ⟨_, f2, _, f4⟩ := e3 hlt
      exact ⟨f4, f2⟩
    · rw [if_neg hk1]
      rcases Int.lt_or_eq_of_le hr2 with h | h
      · have := (e3 h).2.2.1; omega
      · omega
/-- A field that is not right: there are no such words. -/
theorem spl_bad {s a : Int} {T : Tb} {n : Int} (hI : SplI s a T n) (h0 : 0 ≤ a) (h1 : a < slen s) {r : Int} (hr1 : a ≤ r) (hr2 : r ≤ slen s) (hE : EndP s a r)
    (h : sbyte s a = 34 ∨ RightP 0 (ssub s a r) 0 ∨ (r < slen s ∧ (¬ sbyte s r = 32 ∨ r + 1 = slen s))) (T' : Tb) (m e : Int) : SplP s T' m e := by
  intro ws hB _ hs
  obtain ⟨k, w, hC⟩ := core hI h0 h1 hB hs
  obtain ⟨e1, e2, e3, e4⟩ := hC.fin r hr1 hr2 hE
  rcases h with h | h | ⟨h, h2⟩
  · exact absurd h hC.quote
  · have hw := hB w (List.mem_of_getElem? hC.here)
    rw [e2] at h
    have := h rfl (by rw [sdec_senc]; exact hw.1) (by rw [sdec_senc]; exact hw.2.1) (by rw [sdec_senc]; exact hw.2.2)
    exact absurd rfl this
  · obtain ⟨f1, f2, _, _⟩ := e3 h
    rcases h2 with h2 | h2
    · exact absurd f1 h2
    · omega
theorem spl_end {s a : Int} {T : Tb} {n : Int} (hI : SplI s a T n) (h1 : ¬ a < slen s) : (64 < n → SplP s (fun _ _ => 0) 0 3) ∧ (¬ 64 < n → SplP s T n 0) := by
  have key : ∀ ws, Bare ws → sdec s = joinW ws → n = (ws.length : Nat) ∧ RowsW T ws n := fun ws hB hs => by
    obtain ⟨k, e1, e2, e3, e4⟩ := hI ws hB hs
    by_cases hk : k < ws.length
    · rw [if_pos hk] at e4
      exact absurd e4.2 h1
    · exact ⟨by omega, e3⟩
  refine ⟨fun h ws hB hl hs => ?_, fun h ws hB hl hs => ?_⟩
  · have := (key ws hB hs).1; omega
  · obtain ⟨e1, e2⟩ := key ws hB hs
    exact ⟨rfl, e1, e2⟩
theorem spl_begin (s : Int) : SplI s 0 (fun _ _ => 0) 0 := by
  intro ws hB hs
  refine ⟨0, rfl, Nat.zero_le _, fun r hr => by omega, ?_⟩
  by_cases h : 0 < ws.length
  · rw [if_pos h]
    refine ⟨by simpa using hs, ?_⟩
    cases ws with
    | nil => simp at h
    | cons w l =>
      have hw := (hB w (by simp)).1
      have := List.length_pos_iff.2 hw
      unfold slen
      rw [hs, joinW_cons, List.length_append]
      omega
  · rw [if_neg h]
    have : ws = [] := List.eq_nil_of_length_eq_zero (by omega)
    subst this
    unfold slen
    rw [hs]; simp [joinW]
theorem rows_next {T : Tb} {n q x : Int} (h : ∀ r : Int, 0 ≤ r → r < n → slen (T r 1) ≤ 100000) (hx : slen x ≤ 100000) : ∀ r : Int, 0 ≤ r → r < n + 1 → slen (tupd (tupd T n 0 q) n 1 x r 1) ≤ 100000 := by
  intro r h0 h1
  by_cases hr : r = n
  · simp [tupd, hr, hx]
  · simp [tupd, hr]; exact h r h0 (by omega)
theorem vRSpl : ∀ ds, Sorts cRSpl.sorts ds → tRSpl.vc (SI N) ds := by
  refine all_i fun s => all_n ?_
  set_option linter.unusedSimpArgs false in
  simp only [tRSpl, Tree.vc, PE.den, E.den, dens, BO.ev, List.getElem?_cons_zero, List.getElem?_cons_succ, List.cons_append, List.nil_append, Option.some.injEq, D.i.injEq, D.t.injEq, exists_eq_left', exists_const, forall_const, forall_eq', one_ne, one_eq, zero_ne, zero_eq, min_i64, max_i64, min_u8, max_u8, and_true, true_and, Decidable.not_not, S1, S2, S3, S4, S5, S6, S7, S8, S9, S10, S11, S12, S1001, S1002, S1003, S1004, S1005, P10, P11, P12, P13, P14, P15, P16, P17, P18, P19, P20, P21, P22, P30]
  intro hl
  have hn := slen_nonneg s
  refine ⟨fun h => by omega, fun _ => ⟨by omega, fun r h1 h2 => by omega, spl_begin s, fun a T n h0 h1 h2 h3 hR hI => ⟨fun h4 => ⟨by omega, fun r h5 h6 hE => ?_⟩, fun h4 => ?_⟩⟩⟩
  · have hsub : slen (ssub s a r) ≤ 100000 := by have := (slen_ssub s a r).2; omega
    refine ⟨fun hq => ⟨hsub, fun x e hx => ?_⟩, fun hq => ⟨hsub, fun b hb => ?_⟩⟩
    · have bad : ∀ (T' : Tb) m e, SplP s T' m e := fun T' m e => spl_bad hI h0 h4 h5 h6 hE (.inl hq) T' m e
      have hnx := spl_next hI h0 h4 h2 h5 h6 hE 1 x (fun h => absurd hq h)
      have hrn := rows_next (q := 1) hR hx
      repeat' first | omega | exact bad _ _ _ | exact hnx | exact hrn | apply And.intro | intro _
    · have bad : (b = 0 ∨ (r < slen s ∧ (¬ sbyte s r = 32 ∨ r + 1 = slen s))) → ∀ (T' : Tb) m e, SplP s T' m e := fun h T' m e => spl_bad hI h0 h4 h5 h6 hE (by
        rcases h with h | h
        · subst h; exact .inr (.inl hb)
        · exact .inr (.inr h)) T' m e
      have hnx := spl_next hI h0 h4 h2 h5 h6 hE 0 (ssub s a r) (fun _ => ⟨rfl, rfl⟩)
      have hrn := rows_next (q := 0) hR hsub
      refine ⟨fun h => ?_, fun h => ⟨fun h7 => ⟨by omega, fun h8 => ?_, fun h8 => ⟨by omega, fun h9 => ?_, fun h9 => ?_⟩⟩, fun h7 => ?_⟩⟩
      · first | exact bad (.inl h) _ _ _ | exact ⟨fun r h1 h2 => by omega, bad (.inl h) _ _ _⟩
      · first | exact bad (.inr ⟨h7, .inl h8⟩) _ _ _ | exact ⟨fun r h1 h2 => by omega, bad (.inr ⟨h7, .inl h8⟩) _ _ _⟩
      · first | exact bad (.inr ⟨h7, .inr h9⟩) _ _ _ | exact ⟨fun r h1 h2 => by omega, bad (.inr ⟨h7, .inr h9⟩) _ _ _⟩
      · exact ⟨by omega, by omega, by omega, by omega, by omega, hrn, hnx, by omega, by omega⟩
      · exact ⟨by omega, by omega, by omega, by omega, by omega, by omega, hrn, hnx, by omega, by omega⟩
  · have he := spl_end hI h4
    refine ⟨fun h => ?_, fun h => ?_⟩
    · first | exact he.1 h | exact ⟨fun r h1 h2 => by omega, he.1 h⟩
    · first | exact he.2 h | exact ⟨by omega, hR, he.2 h⟩ | exact ⟨hR, he.2 h⟩
end Go.Sf

namespace Go.Sf
open Go Go.Sx Go.Lib
variable {N : Nat}

theorem kw0 : (0 : Int) = senc (kw.getD (0 : Int).toNat []) := by kernel_rfl
theorem kw1 : (-3652410 : Int) = senc (kw.getD (1 : Int).toNat []) := by kernel_rfl
theorem kw2 : (-859061045 : Int) = senc (kw.getD (2 : Int).toNat []) := by kernel_rfl
theorem kw3 : (-859487538 : Int) = senc (kw.getD (3 : Int).toNat []) := by kernel_rfl
theorem kw4 : (-232770778802 : Int) = senc (kw.getD (4 : Int).toNat []) := by kernel_rfl
theorem kw5 : (247819581880 : Int) = senc (kw.getD (5 : Int).toNat []) := by kernel_rfl
theorem kw6 : (-858961976 : Int) = senc (kw.getD (6 : Int).toNat []) := by kernel_rfl
theorem kw7 : (220036545337 : Int) = senc (kw.getD (7 : Int).toNat []) := by kernel_rfl
theorem kw8 : (-262978254131 : Int) = senc (kw.getD (8 : Int).toNat []) := by kernel_rfl
theorem kw9 : (-943305534 : Int) = senc (kw.getD (9 : Int).toNat []) := by kernel_rfl
theorem kw10 : (232770778802 : Int) = senc (kw.getD (10 : Int).toNat []) := by kernel_rfl
theorem kw11 : (-56310019633461 : Int) = senc (kw.getD (11 : Int).toNat []) := by kernel_rfl
theorem kw12 : (211387890097 : Int) = senc (kw.getD (12 : Int).toNat []) := by kernel_rfl
theorem kw13 : (985183030 : Int) = senc (kw.getD (13 : Int).toNat []) := by kernel_rfl
theorem kw14 : (926104245 : Int) = senc (kw.getD (14 : Int).toNat []) := by kernel_rfl
theorem kw15 : (909750583 : Int) = senc (kw.getD (15 : Int).toNat []) := by kernel_rfl
theorem kw16 : (917942578 : Int) = senc (kw.getD (16 : Int).toNat []) := by kernel_rfl
theorem blank : sdec (-17) = [32] := rfl
theorem slen_blank : slen (-17) = 1 := rfl
theorem kw_len {k : Int} (hk : 0 ≤ k ∧ k ≤ 16) : (kw.getD k.toNat []).length ≤ 6 := by
  have : ∀ a : Fin 17, (kw.getD a []).length ≤ 6 := by decide
  exact this ⟨k.toNat, by omega⟩
theorem prt_bad {k i f : Int} (h : ¬ fole k i f = 0) (t : Int) : prt k i f t = 0 := by
  unfold prt; rw [if_neg h]; rfl
theorem prt_ok {k i f : Int} (h : fole k i f = 0) (t : Int) : prt k i f t = senc (prl k i f t) := by
  unfold prt; rw [if_pos h]
theorem join4 (a b c d : List UInt8) : Lib.join [a, b, c, d] [32] = a ++ 32 :: (b ++ 32 :: (c ++ 32 :: d)) := by
  simp [Lib.join, List.intercalate, List.intersperse]
theorem prt_join {k i f t c : Int} (hc : c = senc (kw.getD k.toNat [])) (h : fole k i f = 0) (hi : I64 i) (hf : I64 f) (ht : I64 t) :
    Short (tupd (tupd (tupd (tupd (fun _ _ => 0) 0 0 c) 1 0 (senc (itoa i))) 2 0 (senc (itoa f))) 3 0 (senc (itoa t))) 4 (-17) ∧ fole k i f = 0 ∧
      prt k i f t = joinS (tupd (tupd (tupd (tupd (fun _ _ => 0) 0 0 c) 1 0 (senc (itoa i))) 2 0 (senc (itoa f))) 3 0 (senc (itoa t))) 4 (-17) := by
  have hk := fole_zero h
  refine ⟨⟨by omega, by rw [slen_blank]; omega, fun r hr => ?_⟩, h, ?_⟩
  · have h1 := kw_len (k := k) (by omega)
    have h2 := slen_itoa hi
    have h3 := slen_itoa hf
    have h4 := slen_itoa ht
    rcases (by omega : r = 0 ∨ r = 1 ∨ r = 2 ∨ r = 3) with rfl | rfl | rfl | rfl
    · have h5 : slen c ≤ 6 := by rw [hc, slen_senc]; omega
      simp [tupd]; omega
    · simp [tupd]; omega
    · simp [tupd]; omega
    · simp [tupd]; omega
  · rw [prt_ok h]
    generalize hT : tupd (tupd (tupd (tupd (fun _ _ => 0) 0 0 c) 1 0 (senc (itoa i))) 2 0 (senc (itoa f))) 3 0 (senc (itoa t)) = T
    have e : joinS T 4 (-17) = senc (Lib.join [sdec (T 0 0), sdec (T 1 0), sdec (T 2 0), sdec (T 3 0)] (sdec (-17))) := rfl
    have e0 : T 0 0 = c := by rw [← hT]; simp [tupd]
    have e1 : T 1 0 = senc (itoa i) := by rw [← hT]; simp [tupd]
    have e2 : T 2 0 = senc (itoa f) := by rw [← hT]; simp [tupd]
    have e3 : T 3 0 = senc (itoa t) := by rw [← hT]; simp [tupd]
    rw [e, e0, e1, e2, e3, hc, sdec_senc, sdec_senc, sdec_senc, sdec_senc, blank, join4]
    rfl
set_option maxHeartbeats 4000000 in
theorem vPrt : ∀ ds, Sorts (cPrt 9).sorts ds → tPrt.vc (SI N) ds := by
  refine all_i fun k => all_i fun i => all_i fun f => all_i fun t => all_n ?_
  set_option linter.unusedSimpArgs false in
  simp only [tPrt, Tree.vc, PE.den, E.den, dens, BO.ev, List.getElem?_cons_zero, List.getElem?_cons_succ, List.cons_append, List.nil_append, Option.some.injEq, D.i.injEq, D.t.injEq, exists_eq_left', exists_const, forall_const, forall_eq', one_ne, one_eq, zero_ne, zero_eq, min_i64, max_i64, min_u8, max_u8, and_true, true_and, Decidable.not_not, S1, S2, S3, S4, S5, S6, S7, S8, S9, S10, S11, S12, S1001, S1002, S1003, S1004, S1005, P10, P11, P12, P13, P14, P15, P16, P17, P18, P19, P20, P21, P22, P30]
  intro hk hi hf ht _ _ _ _
  refine ⟨fun h => prt_bad h t, fun h0 => ?_⟩
  refine ⟨fun h => by subst h; exact prt_join kw16 h0 hi hf ht, fun n16 => ?_⟩
  refine ⟨fun h => by subst h; exact prt_join kw15 h0 hi hf ht, fun n15 => ?_⟩
  refine ⟨fun h => by subst h; exact prt_join kw14 h0 hi hf ht, fun n14 => ?_⟩
  refine ⟨fun h => by subst h; exact prt_join kw13 h0 hi hf ht, fun n13 => ?_⟩
  refine ⟨fun h => by subst h; exact prt_join kw12 h0 hi hf ht, fun n12 => ?_⟩
  refine ⟨fun h => by subst h; exact prt_join kw11 h0 hi hf ht, fun n11 => ?_⟩
  refine ⟨fun h => by subst h; exact prt_join kw10 h0 hi hf ht, fun n10 => ?_⟩
  refine ⟨fun h => by subst h; exact prt_join kw9 h0 hi hf ht, fun n9 => ?_⟩
  refine ⟨fun h => by subst h; exact prt_join kw8 h0 hi hf ht, fun n8 => ?_⟩
  refine ⟨fun h => by subst h; exact prt_join kw7 h0 hi hf ht, fun n7 => ?_⟩
  refine ⟨fun h => by subst h; exact prt_join kw6 h0 hi hf ht, fun n6 => ?_⟩
  refine ⟨fun h => by subst h; exact prt_join kw5 h0 hi hf ht, fun n5 => ?_⟩
  refine ⟨fun h => by subst h; exact prt_join kw4 h0 hi hf ht, fun n4 => ?_⟩
  refine ⟨fun h => by subst h; exact prt_join kw3 h0 hi hf ht, fun n3 => ?_⟩
  refine ⟨fun h => by subst h; exact prt_join kw2 h0 hi hf ht, fun n2 => ?_⟩
  refine ⟨fun h => by subst h; exact prt_join kw1 h0 hi hf ht, fun n1 => ?_⟩
  refine ⟨fun h => by have := fole_zero h0; omega, fun n0 => ?_⟩
  have := fole_zero h0
  exfalso; omega
theorem kw_tab {k : Int} (hk : 1 ≤ k ∧ k ≤ 16) : (tupd (tupd (tupd (tupd (tupd (tupd (tupd (tupd (tupd (tupd (tupd (tupd (tupd (tupd (tupd (tupd (fun _ _ => 0) 1 0 (-3652410)) 2 0 (-859061045)) 3 0 (-859487538)) 4 0 (-232770778802)) 5 0 247819581880) 6 0 (-858961976)) 7 0 220036545337) 8 0 (-262978254131)) 9 0 (-943305534)) 10 0 232770778802) 11 0 (-56310019633461)) 12 0 211387890097) 13 0 985183030) 14 0 926104245) 15 0 909750583) 16 0 917942578) k 0 = senc (kw.getD k.toNat []) := by
  rcases (by omega : k = 1 ∨ k = 2 ∨ k = 3 ∨ k = 4 ∨ k = 5 ∨ k = 6 ∨ k = 7 ∨ k = 8 ∨ k = 9 ∨ k = 10 ∨ k = 11 ∨ k = 12 ∨ k = 13 ∨ k = 14 ∨ k = 15 ∨ k = 16) with rfl | rfl | rfl | rfl | rfl | rfl | rfl | rfl | rfl | rfl | rfl | rfl | rfl | rfl | rfl | rfl
  · rw [← kw1]; simp [tupd]
  · rw [← kw2]; simp [tupd]
  · rw [← kw3]; simp [tupd]
  · rw [← kw4]; simp [tupd]
  · rw [← kw5]; simp [tupd]
  · rw [← kw6]; simp [tupd]
  · rw [← kw7]; simp [tupd]
  · rw [← kw8]; simp [tupd]
  · rw [← kw9]; simp [tupd]
  · rw [← kw10]; simp [tupd]
  · rw [← kw11]; simp [tupd]
  · rw [← kw12]; simp [tupd]
  · rw [← kw13]; simp [tupd]
  · rw [← kw14]; simp [tupd]
  · rw [← kw15]; simp [tupd]
  · rw [← kw16]; simp [tupd]
theorem vRPrt : ∀ ds, Sorts (cPrt 14).sorts ds → tRPrt.vc (SI N) ds := by
  refine all_i fun k => all_i fun i => all_i fun f => all_i fun t => all_n ?_
  set_option linter.unusedSimpArgs false in
  simp only [tRPrt, Tree.vc, PE.den, E.den, dens, BO.ev, List.getElem?_cons_zero, List.getElem?_cons_succ, List.cons_append, List.nil_append, Option.some.injEq, D.i.injEq, D.t.injEq, exists_eq_left', exists_const, forall_const, forall_eq', one_ne, one_eq, zero_ne, zero_eq, min_i64, max_i64, min_u8, max_u8, and_true, true_and, Decidable.not_not, S1, S2, S3, S4, S5, S6, S7, S8, S9, S10, S11, S12, S1001, S1002, S1003, S1004, S1005, P10, P11, P12, P13, P14, P15, P16, P17, P18, P19, P20, P21, P22, P30]
  intro hk hi hf ht _ _ _ _
  refine ⟨fun h => prt_bad h t, fun h0 => ?_⟩
  have hk' := fole_zero h0
  rw [kw_tab hk'.1]
  have h1 := kw_len (k := k) (by omega)
  have h2 := slen_itoa hi
  have h3 := slen_itoa hf
  have h4 := slen_itoa ht
  have h5 : slen (senc (kw.getD k.toNat [])) ≤ 6 := by rw [slen_senc]; omega
  simp only [slen_scat, slen_blank]
  refine ⟨by omega, by omega, ?_⟩
  repeat' first | omega | exact h0 | intro _ | apply And.intro
  rw [prt_ok h0]
  simp only [scat, sdec_senc, blank, prl]
  simp

/-! ### Reading -/

theorem pieces {s k i f t : Int} (hk : fole k i f = 0) (hs : sdec s = prl k i f t) :
    splN s (-17) = 4 ∧ splT s (-17) 0 0 = senc (kw.getD k.toNat []) ∧ splT s (-17) 1 0 = senc (itoa i) ∧ splT s (-17) 2 0 = senc (itoa f) ∧ splT s (-17) 3 0 = senc (itoa t) := by
  have h := fole_zero hk
  have e := split_prl (k := k) (i := i) (f := f) (t := t) (by omega)
  unfold splN splT
  rw [blank, hs, e]
  exact ⟨rfl, rfl, rfl, rfl, rfl⟩
theorem par_bad {s : Int} (h : ∀ k i f t, I64 i → I64 f → I64 t → fole k i f = 0 → sdec s = prl k i f t → False) : ParP s 0 0 0 0 6 :=
  .inr ⟨rfl, rfl, rfl, rfl, rfl, fun k i f t hi hf ht hk hs => h k i f t hi hf ht hk hs⟩
theorem intP_at {p n e m : Int} (h : IntP p n e) (hm : I64 m) (hp : p = senc (itoa m)) : n = m ∧ e = 0 := h m hm (by rw [hp, sdec_senc])
theorem par_ok {s k i f t : Int} (hk : fole k i f = 0) (hs : prt k i f t = s) (hi : I64 i) (hf : I64 f) (ht : I64 t) : ParP s k i f t 0 := by
  refine .inl ⟨rfl, hk, ?_, hi, hf, ht⟩
  rw [← hs, prt_ok hk, sdec_senc]
structure Nums (s n n2 n4 : Int) : Prop where
  a : IntP (splT s (-17) 1 0) n 0
  b : IntP (splT s (-17) 2 0) n2 0
  c : IntP (splT s (-17) 3 0) n4 0
  ra : I64 n
  rb : I64 n2
  rc : I64 n4
theorem par_leaf {s n n2 n4 j code : Int} (hcode : code = senc (kw.getD j.toNat [])) (hj : 0 ≤ j ∧ j ≤ 16) (h : code = splT s (-17) 0 0) (hN : Nums s n n2 n4) :
    (¬fole j n n2 = 0 → ParP s 0 0 0 0 6) ∧ (fole j n n2 = 0 → (¬prt j n n2 n4 = s → ParP s 0 0 0 0 6) ∧ (prt j n n2 n4 = s → ParP s j n n2 n4 0)) := by
  have key : ∀ k i f t, I64 i → I64 f → I64 t → fole k i f = 0 → sdec s = prl k i f t → k = j ∧ i = n ∧ f = n2 ∧ t = n4 := fun k i f t hi hf ht hk hs => by
    obtain ⟨_, e0, e1, e2, e3⟩ := pieces hk hs
    have hk' := fole_zero hk
    refine ⟨kw_inj (by omega) hj (senc_inj ?_), (intP_at hN.a hi e1).1.symm, (intP_at hN.b hf e2).1.symm, (intP_at hN.c ht e3).1.symm⟩
    rw [← e0, ← h, hcode]
  refine ⟨fun h1 => par_bad fun k i f t hi hf ht hk hs => ?_, fun h1 => ⟨fun h2 => par_bad fun k i f t hi hf ht hk hs => ?_, fun h2 => par_ok h1 h2 hN.ra hN.rb hN.rc⟩⟩
  · obtain ⟨rfl, rfl, rfl, rfl⟩ := key k i f t hi hf ht hk hs
    exact h1 hk
  · obtain ⟨rfl, rfl, rfl, rfl⟩ := key k i f t hi hf ht hk hs
    exact h2 (by rw [prt_ok hk, ← hs, senc_sdec])
theorem par_last {s n n2 n4 : Int} (h : ∀ j : Int, 1 ≤ j → j ≤ 16 → ¬ senc (kw.getD j.toNat []) = splT s (-17) 0 0) :
    (¬fole (-1) n n2 = 0 → ParP s 0 0 0 0 6) ∧ (fole (-1) n n2 = 0 → (¬prt (-1) n n2 n4 = s → ParP s 0 0 0 0 6) ∧ (prt (-1) n n2 n4 = s → ParP s (-1) n n2 n4 0)) := by
  refine ⟨fun _ => par_bad fun k i f t hi hf ht hk hs => ?_, fun h1 => ?_⟩
  · have hk' := fole_zero hk
    exact h k (by omega) (by omega) (pieces hk hs).2.1.symm
  · have := fole_zero h1
    omega
theorem splitK_len (sep : List UInt8) : ∀ (k : Nat) (l : List UInt8) (w : List UInt8), w ∈ splitK sep 0 k l → w.length ≤ l.length
  | 0, l, w, h => by simp [splitK] at h; subst h; exact Nat.le_refl _
  | k + 1, l, w, h => by
    simp only [splitK] at h
    split at h
    · simp at h; subst h; exact Nat.le_refl _
    · rcases List.mem_cons.1 h with rfl | h
      · exact List.length_take_le' _ _
      · have := splitK_len sep k _ w h
        rw [List.length_drop] at this
        omega
theorem piece_len (s sep r : Int) : slen (splT s sep r 0) ≤ slen s := by
  unfold splT
  rw [slen_senc]
  unfold slen
  by_cases h : r.toNat < (Lib.split (sdec s) (sdec sep)).length
  · rw [List.getD_eq_getElem?_getD, List.getElem?_eq_getElem h]
    have := splitK_len (sdec sep) _ _ _ (List.getElem_mem h)
    simp only [Option.getD_some]
    omega
  · rw [List.getD_eq_getElem?_getD, List.getElem?_eq_none (by omega)]
    simp
theorem vPar : ∀ ds, Sorts (cPar 11).sorts ds → tPar.vc (SI N) ds := by
  refine all_i fun s => all_n ?_
  set_option linter.unusedSimpArgs false in
  simp only [tPar, Tree.vc, PE.den, E.den, dens, BO.ev, List.getElem?_cons_zero, List.getElem?_cons_succ, List.cons_append, List.nil_append, Option.some.injEq, D.i.injEq, D.t.injEq, exists_eq_left', exists_const, forall_const, forall_eq', one_ne, one_eq, zero_ne, zero_eq, min_i64, max_i64, min_u8, max_u8, and_true, true_and, Decidable.not_not, S1, S2, S3, S4, S5, S6, S7, S8, S9, S10, S11, S12, S1001, S1002, S1003, S1004, S1005, P10, P11, P12, P13, P14, P15, P16, P17, P18, P19, P20, P21, P22, P30]
  intro hl
  have p1 := piece_len s (-17) 1
  have p2 := piece_len s (-17) 2
  have p3 := piece_len s (-17) 3
  refine ⟨by omega, by rw [slen_blank]; omega, fun _ _ _ _ h1 => ⟨fun h => par_bad fun k i f t hi hf ht hk hs => h (pieces hk hs).1, fun h4 => ⟨by omega, by omega, fun n e hn hI => ⟨fun h => par_bad fun k i f t hi hf ht hk hs => h (intP_at hI hi (pieces hk hs).2.2.1).2, fun he => ⟨by omega, by omega, fun n2 e2 hn2 hI2 =>
    ⟨fun h => par_bad fun k i f t hi hf ht hk hs => h (intP_at hI2 hf (pieces hk hs).2.2.2.1).2, fun he2 => ⟨by omega, by omega, fun n4 e4 hn4 hI4 => ⟨fun h => par_bad fun k i f t hi hf ht hk hs => h (intP_at hI4 ht (pieces hk hs).2.2.2.2).2, fun he4 => ⟨by omega, ?_⟩⟩⟩⟩⟩⟩⟩⟩⟩
  subst he; subst he2; subst he4
  have hN : Nums s n n2 n4 := ⟨hI, hI2, hI4, hn, hn2, hn4⟩
  refine ⟨fun h => par_leaf kw0 ⟨by decide, by decide⟩ h hN, fun n0 => ?_⟩
  refine ⟨fun h => par_leaf kw1 ⟨by decide, by decide⟩ h hN, fun n1 => ?_⟩
  refine ⟨fun h => par_leaf kw2 ⟨by decide, by decide⟩ h hN, fun n2 => ?_⟩
  refine ⟨fun h => par_leaf kw3 ⟨by decide, by decide⟩ h hN, fun n3 => ?_⟩
  refine ⟨fun h => par_leaf kw4 ⟨by decide, by decide⟩ h hN, fun n4 => ?_⟩
  refine ⟨fun h => par_leaf kw5 ⟨by decide, by decide⟩ h hN, fun n5 => ?_⟩
  refine ⟨fun h => par_leaf kw6 ⟨by decide, by decide⟩ h hN, fun n6 => ?_⟩
  refine ⟨fun h => par_leaf kw7 ⟨by decide, by decide⟩ h hN, fun n7 => ?_⟩
  refine ⟨fun h => par_leaf kw8 ⟨by decide, by decide⟩ h hN, fun n8 => ?_⟩
  refine ⟨fun h => par_leaf kw9 ⟨by decide, by decide⟩ h hN, fun n9 => ?_⟩
  refine ⟨fun h => par_leaf kw10 ⟨by decide, by decide⟩ h hN, fun n10 => ?_⟩
  refine ⟨fun h => par_leaf kw11 ⟨by decide, by decide⟩ h hN, fun n11 => ?_⟩
  refine ⟨fun h => par_leaf kw12 ⟨by decide, by decide⟩ h hN, fun n12 => ?_⟩
  refine ⟨fun h => par_leaf kw13 ⟨by decide, by decide⟩ h hN, fun n13 => ?_⟩
  refine ⟨fun h => par_leaf kw14 ⟨by decide, by decide⟩ h hN, fun n14 => ?_⟩
  refine ⟨fun h => par_leaf kw15 ⟨by decide, by decide⟩ h hN, fun n15 => ?_⟩
  refine ⟨fun h => par_leaf kw16 ⟨by decide, by decide⟩ h hN, fun n16 => ?_⟩
  refine par_last fun j h1 h2 e => ?_
  rcases (by omega : j = 1 ∨ j = 2 ∨ j = 3 ∨ j = 4 ∨ j = 5 ∨ j = 6 ∨ j = 7 ∨ j = 8 ∨ j = 9 ∨ j = 10 ∨ j = 11 ∨ j = 12 ∨ j = 13 ∨ j = 14 ∨ j = 15 ∨ j = 16) with rfl | rfl | rfl | rfl | rfl | rfl | rfl | rfl | rfl | rfl | rfl | rfl | rfl | rfl | rfl | rfl
  · exact n1 (kw1.trans e)
  · exact n2 (kw2.trans e)
  · exact n3 (kw3.trans e)
  · exact n4 (kw4.trans e)
  · exact n5 (kw5.trans e)
  · exact n6 (kw6.trans e)
  · exact n7 (kw7.trans e)
  · exact n8 (kw8.trans e)
  · exact n9 (kw9.trans e)
  · exact n10 (kw10.trans e)
  · exact n11 (kw11.trans e)
  · exact n12 (kw12.trans e)
  · exact n13 (kw13.trans e)
  · exact n14 (kw14.trans e)
  · exact n15 (kw15.trans e)
  · exact n16 (kw16.trans e)
theorem vRPar : ∀ ds, Sorts (cPar 15).sorts ds → tRPar.vc (SI N) ds := by
  refine all_i fun s => all_n ?_
  set_option linter.unusedSimpArgs false in
  simp only [tRPar, Tree.vc, PE.den, E.den, dens, BO.ev, List.getElem?_cons_zero, List.getElem?_cons_succ, List.cons_append, List.nil_append, Option.some.injEq, D.i.injEq, D.t.injEq, exists_eq_left', exists_const, forall_const, forall_eq', one_ne, one_eq, zero_ne, zero_eq, min_i64, max_i64, min_u8, max_u8, and_true, true_and, Decidable.not_not, S1, S2, S3, S4, S5, S6, S7, S8, S9, S10, S11, S12, S1001, S1002, S1003, S1004, S1005, P10, P11, P12, P13, P14, P15, P16, P17, P18, P19, P20, P21, P22, P30]
  intro hl T n e hn0 hR hS
  have sp : ∀ {k i f t : Int}, I64 i → I64 f → I64 t → fole k i f = 0 → sdec s = prl k i f t → e = 0 ∧ n = 4 ∧ T 1 1 = senc (itoa i) ∧ T 2 1 = senc (itoa f) ∧ T 3 1 = senc (itoa t) := fun {k i f t} hi hf ht hk hs => by
    have hk' := fole_zero hk
    obtain ⟨h1, h2, h3⟩ := hS _ (prl_bare (k := k) hk'.1 hi hf ht) (by simp) (by rw [hs, prl_join])
    have h2' : n = 4 := by simpa using h2
    exact ⟨h1, h2', (h3 1 (by omega)).2 _ rfl, (h3 2 (by omega)).2 _ rfl, (h3 3 (by omega)).2 _ rfl⟩
  refine ⟨fun h => par_bad fun k i f t hi hf ht hk hs => h (sp hi hf ht hk hs).1, fun he => ⟨fun h => par_bad fun k i f t hi hf ht hk hs => h (sp hi hf ht hk hs).2.1, fun h4 => ⟨by omega, hR 1 (by omega) (by omega), fun a ea ha hIa =>
    ⟨fun h => par_bad fun k i f t hi hf ht hk hs => h (intP_at hIa hi (sp hi hf ht hk hs).2.2.1).2, fun _ => ⟨by omega, hR 2 (by omega) (by omega), fun b eb hb hIb =>
    ⟨fun h => par_bad fun k i f t hi hf ht hk hs => h (intP_at hIb hf (sp hi hf ht hk hs).2.2.2.1).2, fun _ => ⟨by omega, hR 3 (by omega) (by omega), fun c ec hc hIc =>
    ⟨fun h => par_bad fun k i f t hi hf ht hk hs => h (intP_at hIc ht (sp hi hf ht hk hs).2.2.2.2).2, fun _ => ⟨fun j h1 h2 => by omega, fun q h1 h2 hq => ⟨fun h3 => ⟨⟨by omega, by omega⟩, fun h5 => ⟨fun h6 => par_ok h5 h6 ha hb hc, fun h6 => ?_⟩, fun h5 => ?_⟩, fun h3 => ?_⟩⟩⟩⟩⟩⟩⟩⟩⟩⟩
  · refine ⟨⟨by omega, by omega⟩, by omega, by omega, fun j g1 g2 g3 => ?_, by omega, by omega⟩
    by_cases hj : j = q
    · subst hj; exact h6
    · exact hq j g1 (by omega) g3
  · refine ⟨⟨by omega, by omega⟩, by omega, by omega, fun j g1 g2 g3 => ?_, by omega, by omega⟩
    by_cases hj : j = q
    · subst hj; exact absurd g3 h5
    · exact hq j g1 (by omega) g3
  · refine par_bad fun k i f t hi hf ht hk hs => ?_
    obtain ⟨_, _, e1, e2, e3⟩ := sp hi hf ht hk hs
    obtain ⟨rfl, _⟩ := intP_at hIa hi e1
    obtain ⟨rfl, _⟩ := intP_at hIb hf e2
    obtain ⟨rfl, _⟩ := intP_at hIc ht e3
    have hk' := fole_zero hk
    exact hq k (by omega) (by omega) hk (by rw [prt_ok hk, ← hs, senc_sdec])
end Go.Sf

namespace Go.Sf
open Go Go.Sx Go.Lib
variable {N : Nat}

theorem prt_len {k i f t : Int} (hi : I64 i) (hf : I64 f) (ht : I64 t) : slen (prt k i f t) ≤ 200 := by
  by_cases h : fole k i f = 0
  · rw [prt_ok h, slen_senc]
    have hk := fole_zero h
    have h1 := kw_len (k := k) (by omega)
    have h2 := itoa_len hi
    have h3 := itoa_len hf
    have h4 := itoa_len ht
    unfold prl
    simp only [List.length_append, List.length_cons]
    omega
  · rw [prt_bad h, slen_0]; omega
/-- A fault's text is read as the fault. -/
theorem par_prt {k i f t a b c d e : Int} (h : fole k i f = 0) (hi : I64 i) (hf : I64 f) (ht : I64 t) (hp : ParP (prt k i f t) a b c d e) : e = 0 ∧ a = k ∧ b = i ∧ c = f ∧ d = t := by
  have hq : ParP (prt k i f t) k i f t 0 := par_ok h rfl hi hf ht
  obtain ⟨⟨e1, e2, e3, e4⟩, e5⟩ := hp.unique hq
  exact ⟨e5, e1, e2, e3, e4⟩
theorem vTexts : ∀ ds, Sorts cTexts.sorts ds → tTexts.vc (SI N) ds := by
  refine all_i fun k => all_i fun i => all_i fun f => all_i fun t => all_i fun s => all_n ?_
  set_option linter.unusedSimpArgs false in
  simp only [tTexts, Tree.vc, PE.den, E.den, dens, BO.ev, List.getElem?_cons_zero, List.getElem?_cons_succ, List.cons_append, List.nil_append, Option.some.injEq, D.i.injEq, D.t.injEq, exists_eq_left', exists_const, forall_const, forall_eq', one_ne, one_eq, zero_ne, zero_eq, min_i64, max_i64, min_u8, max_u8, and_true, true_and, Decidable.not_not, S1, S2, S3, S4, S5, S6, S7, S8, S9, S10, S11, S12, S1001, S1002, S1003, S1004, S1005, P10, P11, P12, P13, P14, P15, P16, P17, P18, P19, P20, P21, P22, P30]
  intro _ hi hf ht
  refine ⟨fun _ => trivial, fun _ _ _ _ _ _ _ _ _ a b c d e h1 a' b' c' d' e' h2 => ?_⟩
  obtain ⟨⟨rfl, rfl, rfl, rfl⟩, rfl⟩ := h1.unique h2
  have one : (1 : Int) ≠ 0 := by decide
  refine ⟨fun h => h trivial, fun h => h trivial, fun h => h trivial, fun h => h ⟨rfl, rfl, rfl, rfl, one⟩, fun _ => ⟨fun h => h rfl, fun _ => ⟨fun h0 => ⟨prt_len hi hf ht, fun x y z u v hp => ?_⟩, fun _ => trivial⟩⟩⟩
  obtain ⟨rfl, rfl, rfl, rfl, rfl⟩ := par_prt h0 hi hf ht hp
  exact ⟨fun _ => ⟨fun _ => trivial, fun h => h ⟨rfl, rfl, rfl, rfl, one⟩⟩, fun h => h rfl⟩
end Go.Sf
