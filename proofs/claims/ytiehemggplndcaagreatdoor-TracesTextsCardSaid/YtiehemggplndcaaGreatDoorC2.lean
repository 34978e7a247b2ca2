/-
  The formulas of the contracts hold: bytes, names, numerals. Conditions: none; nothing here speaks of a program.
-/
import Derived.Test.YtiehemggplndcaaGreatDoorC1
import Derived.KernelRfl
namespace Go.Tt
open Go Go.Sx Go.Lib Go.Sf
variable {N : Nat}
theorem prn_bad {s l n : Int} (h0 : 0 ≤ n) (h1 : n < slen s) (h : sbyte s n < l ∨ 126 < sbyte s n) : PrnP s l 0 := by
  refine ⟨fun h => absurd rfl h, fun hc => ?_⟩
  obtain ⟨c, _, h2, h3⟩ := sbyte_mem h0 h1
  have := hc c h2
  omega
theorem prn_end {s l n : Int} (h : PrnI s l n) (hn : ¬ n < slen s) : PrnP s l 1 := by
  refine ⟨fun _ c hc => ?_, fun _ => by decide⟩
  obtain ⟨m, h0, h1, h2⟩ := mem_sbyte hc
  have := h m h0 (by omega)
  omega
theorem prn_next {s l n : Int} (h : PrnI s l n) (h1 : ¬ sbyte s n < l) (h2 : ¬ 126 < sbyte s n) : PrnI s l (n + 1) := by
  intro j h3 h4
  by_cases hj : j < n
  · exact h j h3 hj
  · obtain rfl : j = n := by omega
    omega
theorem vPrn : ∀ ds, Sorts cPrn.sorts ds → tPrn.vc (TI N) ds := by
  refine all_i fun s => all_i fun l => all_n ?_
  set_option linter.unusedSimpArgs false in
  simp (config := { maxSteps := 10000000 }) only [tPrn, e0, e1, p2, p16, e34, p35, e36, e37, q38, e39, p40, p41, p42, e43, q44, Tree.vc, PE.den, E.den, dens, BO.ev, List.getElem?_cons_zero, List.getElem?_cons_succ, List.cons_append, List.nil_append, Option.some.injEq, D.i.injEq, D.t.injEq, exists_eq_left', exists_const, forall_const, forall_eq', one_ne, one_eq, zero_ne, zero_eq, min_i64, max_i64, min_u8, max_u8, and_true, true_and, Decidable.not_not, S3, S5, S6, S7, S8, S9, S10, S11, S12, S20, S1000, S1001, S1002, S1003, S1004, S1005, S1010, S1011, P10, P11, P12, P13, P14, P15, P16, P17, P20, P21, P22, P30, P31, P32, P33, P34, P35, P36, P37, P38, S13, S14, S15, S1008, S1009, P23, P40, P41, P42, P43, P44, P45, P46, P47, P48, P49, P50, P51, P52, P53, P54, P55, P56, P57, P58, P59, P60, P61, P62, P63, P64, P65, P66, P67, P68, P69, P70, P71, P72, P80, P73, P74, P81, P82, P83, P84]
  intro hs
  refine ⟨slen_nonneg s, fun j h0 h1 => by omega, fun n h0 h1 h2 => ⟨fun h3 => ⟨fun h4 => prn_bad h0 h3 (.inl h4), fun h4 => ⟨fun h5 => prn_bad h0 h3 (.inr h5), fun h5 => ?_⟩⟩, fun h3 => prn_end h2 h3⟩⟩
  exact ⟨by omega, by omega, by omega, prn_next h2 h4 h5, by omega, by omega⟩
theorem letterB_iff {b : UInt8} : letterB b = true ↔ LetI ((b.toNat : Nat) : Int) := by
  unfold letterB LetI
  simp only [Bool.or_eq_true, decide_eq_true_eq]
  omega
theorem nameB_iff {b : UInt8} : nameB b = true ↔ NamI ((b.toNat : Nat) : Int) := by
  unfold nameB NamI
  simp only [Bool.or_eq_true, decide_eq_true_eq, letterB_iff]
  unfold LetI
  omega
theorem nm_iff {s : Int} : NameP (sdec s) ↔ 1 ≤ slen s ∧ slen s ≤ 16 ∧ NmI s (slen s) := by
  unfold NameP NmI
  constructor
  · rintro ⟨h1, h2, h3, h4⟩
    refine ⟨by unfold slen; omega, by unfold slen; omega, fun j h0 hj => ?_⟩
    obtain ⟨c, hc, hm, he⟩ := sbyte_mem h0 hj
    rw [he]
    refine ⟨nameB_iff.1 (h4 c hm), fun hj0 => ?_⟩
    subst hj0
    exact letterB_iff.1 (h3 c (by rw [List.head?_eq_getElem?]; exact hc))
  · rintro ⟨h1, h2, h3⟩
    refine ⟨by unfold slen at h1; omega, by unfold slen at h2; omega, fun b hb => ?_, fun b hb => ?_⟩
    · rw [List.head?_eq_getElem?] at hb
      have h4 := (h3 0 (by omega) (by omega)).2 rfl
      have : sbyte s 0 = (b.toNat : Nat) := by unfold sbyte; rw [show ((0 : Int).toNat) = 0 from rfl, hb]; rfl
      rw [this] at h4
      exact letterB_iff.2 h4
    · obtain ⟨m, h0, h5, h6⟩ := mem_sbyte hb
      have h4 := (h3 m h0 h5).1
      rw [h6] at h4
      exact nameB_iff.2 h4
theorem name_bad {s n : Int} (h0 : 0 ≤ n) (h1 : n < slen s) (h : ¬ (NamI (sbyte s n) ∧ (n = 0 → LetI (sbyte s n)))) : nameF s = 0 := by
  unfold nameF
  rw [if_neg]
  intro hn
  exact h ((nm_iff.1 hn).2.2 n h0 h1)
theorem name_len {s : Int} (h : ¬ (1 ≤ slen s ∧ slen s ≤ 16)) : nameF s = 0 := by
  unfold nameF
  rw [if_neg]
  intro hn
  exact h ⟨(nm_iff.1 hn).1, (nm_iff.1 hn).2.1⟩
theorem name_end {s n : Int} (h : NmI s n) (hn : ¬ n < slen s) (h1 : 1 ≤ slen s) : nameF s = (if slen s ≤ 16 then (1 : Int) else 0) := by
  by_cases h2 : slen s ≤ 16
  · rw [if_pos h2]
    unfold nameF
    rw [if_pos (nm_iff.2 ⟨h1, h2, fun j h3 h4 => h j h3 (by omega)⟩)]
  · rw [if_neg h2]
    exact name_len fun h => h2 h.2
theorem nm_next {s n : Int} (h : NmI s n) (h1 : NamI (sbyte s n)) (h2 : n = 0 → LetI (sbyte s n)) : NmI s (n + 1) := by
  intro j h3 h4
  by_cases hj : j < n
  · exact h j h3 hj
  · obtain rfl : j = n := by omega
    exact ⟨h1, h2⟩
theorem or32 (s n : Int) : (97 ≤ bitsEv 1 IntKind.u8 (sbyte s n) 32 ∧ bitsEv 1 IntKind.u8 (sbyte s n) 32 ≤ 122) ↔ LetI (sbyte s n) := by
  unfold sbyte
  generalize ((sdec s)[n.toNat]?).getD 0 = b
  have h : ∀ b : Fin 256, (97 ≤ bitsEv 1 IntKind.u8 ((b.val : Nat) : Int) 32 ∧ bitsEv 1 IntKind.u8 ((b.val : Nat) : Int) 32 ≤ 122) ↔ LetI ((b.val : Nat) : Int) := by unfold LetI; decide +kernel
  exact h ⟨b.toNat, UInt8.toNat_lt b⟩
theorem vName : ∀ ds, Sorts (cName 76).sorts ds → tName.vc (TI N) ds := by
  refine all_i fun s => all_n ?_
  set_option linter.unusedSimpArgs false in
  simp (config := { maxSteps := 10000000 }) only [tName, e0, e1, p2, p16, e17, p18, e19, e20, e21, e22, q23, e24, e25, e26, e27, p28, p29, p30, q31, q32, q33, Tree.vc, PE.den, E.den, dens, BO.ev, List.getElem?_cons_zero, List.getElem?_cons_succ, List.cons_append, List.nil_append, Option.some.injEq, D.i.injEq, D.t.injEq, exists_eq_left', exists_const, forall_const, forall_eq', one_ne, one_eq, zero_ne, zero_eq, min_i64, max_i64, min_u8, max_u8, and_true, true_and, Decidable.not_not, S3, S5, S6, S7, S8, S9, S10, S11, S12, S20, S1000, S1001, S1002, S1003, S1004, S1005, S1010, S1011, P10, P11, P12, P13, P14, P15, P16, P17, P20, P21, P22, P30, P31, P32, P33, P34, P35, P36, P37, P38, S13, S14, S15, S1008, S1009, P23, P40, P41, P42, P43, P44, P45, P46, P47, P48, P49, P50, P51, P52, P53, P54, P55, P56, P57, P58, P59, P60, P61, P62, P63, P64, P65, P66, P67, P68, P69, P70, P71, P72, P80, P73, P74, P81, P82, P83, P84]
  intro hs
  refine ⟨slen_nonneg s, fun j h0 h1 => by omega, fun n h0 h1 h2 => ⟨fun h3 => ?_, fun h3 => ⟨fun h4 => name_end h2 h3 h4, fun h4 => name_len fun h => h4 h.1⟩⟩⟩
  have ho := or32 s n
  by_cases hL : LetI (sbyte s n)
  · have hn := nm_next h2 (.inl hL) (fun _ => hL)
    have ho := ho.2 hL
    repeat' with_reducible first | apply And.intro | intro _
    all_goals first | omega | exact hn
  · have ho : ¬ (97 ≤ bitsEv 1 IntKind.u8 (sbyte s n) 32 ∧ bitsEv 1 IntKind.u8 (sbyte s n) 32 ≤ 122) := fun h => hL (ho.1 h)
    have hb : (n = 0 ∨ ¬ ((48 ≤ sbyte s n ∧ sbyte s n ≤ 57) ∨ sbyte s n = 95)) → nameF s = 0 := fun h => name_bad h0 h3 fun hh => by
      rcases h with h | h
      · exact hL (hh.2 h)
      · rcases hh.1 with h4 | h4
        · exact hL h4
        · exact h h4
    have hn : n ≠ 0 → ((48 ≤ sbyte s n ∧ sbyte s n ≤ 57) ∨ sbyte s n = 95) → NmI s (n + 1) := fun h h4 => nm_next h2 (.inr h4) fun e => absurd e h
    repeat' with_reducible first | apply And.intro | intro _
    all_goals first | omega | exact hb (by omega) | exact hn (by omega) (by omega)
end Go.Tt
namespace Go.Tt
open Go Go.Sx Go.Lib Go.Sf
variable {N : Nat}
theorem dash : sdec 23 = [45] := rfl
theorem trim_of {s m : Int} (hs : sdec s = itoa m) : sdec (trimS s 23) = decDigits m.natAbs := by
  unfold trimS; rw [sdec_senc, dash, hs, trim_itoa]
theorem int_no {s : Int} (h : ∀ m, I64 m → sdec s = itoa m → False) {e : Int} (he : e ≠ 0) (a : Int) : IntP s a e := .inr ⟨he, fun m hm hs => h m hm hs⟩
theorem int_dig {s n : Int} (h0 : 0 ≤ n) (h1 : n < slen (trimS s 23)) (h : ¬ 48 ≤ sbyte (trimS s 23) n ∨ ¬ sbyte (trimS s 23) n ≤ 57) (a : Int) : IntP s a 6 := by
  refine int_no (fun m hm hs => ?_) (by decide) a
  obtain ⟨c, _, h2, h3⟩ := sbyte_mem h0 h1
  rw [trim_of hs] at h2
  have := dd_digit _ c h2
  omega
theorem int_empty {s : Int} (h : trimS s 23 = 0) (a : Int) : IntP s a 6 := by
  refine int_no (fun m hm hs => ?_) (by decide) a
  have h1 := trim_of hs
  rw [h] at h1
  exact absurd h1.symm (dd_ne _)
theorem int_zero {s : Int} (h0 : 0 < slen (trimS s 23)) (h : sbyte (trimS s 23) 0 = 48) (h2 : 1 < slen (trimS s 23) ∨ hpre s 23 ≠ 0) (a : Int) : IntP s a 6 := by
  refine int_no (fun m hm hs => ?_) (by decide) a
  obtain ⟨c, h3, _, h4⟩ := sbyte_mem (Int.le_refl 0) h0
  have h5 : (decDigits m.natAbs)[0]? = some c := by rw [← trim_of hs]; exact h3
  have h6 := dd_zero h5 (by omega)
  have h7 : m = 0 := by omega
  subst h7
  rcases h2 with h2 | h2
  · have h8 : slen (trimS s 23) = 1 := by
      unfold slen; rw [trim_of hs]; rw [dd_small (by decide)]; rfl
    omega
  · apply absurd ?_ h2
    unfold hpre
    rw [dash, hs, pre_itoa]
    rfl
theorem int_err {s : Int} (h : ¬ perrL (sdec s) = 0) (a : Int) : IntP s a 7 := by
  refine int_no (fun m hm hs => ?_) (by decide) a
  apply absurd ?_ h
  unfold perrL
  rw [hs, parse_itoa hm.1 hm.2]
theorem trim_pre {s : Int} : (hpre s 23 ≠ 0 → sdec s = 45 :: sdec (trimS s 23)) ∧ (hpre s 23 = 0 → sdec (trimS s 23) = sdec s) := by
  unfold hpre trimS Lib.trimPrefix Lib.hasPrefix
  rw [dash, sdec_senc]
  cases hl : sdec s with
  | nil => simp
  | cons c r =>
    by_cases hc : (45 : UInt8) = c
    · subst hc; simp
    · simp [hc]
theorem int_ok {s n : Int} (hd : DigI (trimS s 23) n) (hn : ¬ n < slen (trimS s 23)) (h0 : ¬ trimS s 23 = 0) (hz : sbyte (trimS s 23) 0 = 48 → ¬ 1 < slen (trimS s 23) ∧ hpre s 23 = 0) (he : perrL (sdec s) = 0)
    (hr : I64 (pintL (sdec s))) : IntP s (pintL (sdec s)) 0 := by
  have hcan : Canon (sdec (trimS s 23)) := by
    refine ⟨sdec_ne.2 h0, fun b hb => ?_, fun b hb h48 => ?_⟩
    · obtain ⟨m, h1, h2, h3⟩ := mem_sbyte hb
      have := hd m h1 (by omega)
      omega
    · rw [List.head?_eq_getElem?] at hb
      have e : sbyte (trimS s 23) 0 = (b.toNat : Nat) := by unfold sbyte; rw [show ((0 : Int).toNat) = 0 from rfl, hb]; rfl
      have h1 := (hz (by omega)).1
      have h2 := slen_pos h0
      unfold slen at h1 h2
      omega
  refine .inl ⟨rfl, hr, ?_⟩
  unfold perrL at he
  unfold pintL
  cases hp : parseIntB 64 (sdec s) with
  | ok v =>
    by_cases h : hpre s 23 = 0
    · rw [trim_pre.2 h] at hcan
      exact parse_pos hcan hp
    · have e := trim_pre.1 h
      rw [e] at hp ⊢
      refine parse_neg hcan (fun h48 => ?_) hp
      rw [List.head?_eq_getElem?] at h48
      have e2 : sbyte (trimS s 23) 0 = 48 := by unfold sbyte; rw [show ((0 : Int).toNat) = 0 from rfl, h48]; rfl
      exact h (hz e2).2
  | range => rw [hp] at he; simp at he
  | _ => rw [hp] at he; simp at he
theorem trim_len (s p : Int) : slen (trimS s p) ≤ slen s := by
  unfold trimS
  rw [slen_senc]
  unfold Lib.trimPrefix slen
  split
  · rw [List.length_drop]; omega
  · omega
theorem dig_next {s n : Int} (h : DigI s n) (h1 : 48 ≤ sbyte s n) (h2 : sbyte s n ≤ 57) : DigI s (n + 1) := by
  intro j h3 h4
  by_cases hj : j < n
  · exact h j h3 hj
  · obtain rfl : j = n := by omega
    exact ⟨h1, h2⟩
theorem vInt : ∀ ds, Sorts (cInt 69).sorts ds → tInt.vc (TI N) ds := by
  refine all_i fun s => all_n ?_
  set_option linter.unusedSimpArgs false in
  simp (config := { maxSteps := 10000000 }) only [tInt, e0, e1, p2, e3, e4, e5, p6, e7, q8, e9, p10, e11, e12, e13, q14, q15, Tree.vc, PE.den, E.den, dens, BO.ev, List.getElem?_cons_zero, List.getElem?_cons_succ, List.cons_append, List.nil_append, Option.some.injEq, D.i.injEq, D.t.injEq, exists_eq_left', exists_const, forall_const, forall_eq', one_ne, one_eq, zero_ne, zero_eq, min_i64, max_i64, min_u8, max_u8, and_true, true_and, Decidable.not_not, S3, S5, S6, S7, S8, S9, S10, S11, S12, S20, S1000, S1001, S1002, S1003, S1004, S1005, S1010, S1011, P10, P11, P12, P13, P14, P15, P16, P17, P20, P21, P22, P30, P31, P32, P33, P34, P35, P36, P37, P38, S13, S14, S15, S1008, S1009, P23, P40, P41, P42, P43, P44, P45, P46, P47, P48, P49, P50, P51, P52, P53, P54, P55, P56, P57, P58, P59, P60, P61, P62, P63, P64, P65, P66, P67, P68, P69, P70, P71, P72, P80, P73, P74, P81, P82, P83, P84]
  intro hs _ _ _ _
  have hn := slen_nonneg (trimS s 23)
  have htl := trim_len s 23
  have hpos := @slen_pos (trimS s 23)
  have hb1 := @int_dig s
  have hb2 := @int_empty s
  have hb3 := @int_zero s
  have hb4 := @int_err s
  have hb5 := @int_ok s
  have hb6 := @dig_next (trimS s 23)
  have h00 : DigI (trimS s 23) 0 := fun j h0 h1 => by omega
  repeat' with_reducible first | apply And.intro | intro _
  all_goals first
    | omega | exact h00 | (refine hb1 (by assumption) (by assumption) (by omega) _) | exact hb2 (by assumption) _ | exact hb3 (by omega) (by assumption) (by omega) _ | exact hb4 (by assumption) _
    | (refine hb6 (by assumption) (by assumption) (by assumption))
    | (refine hb5 (by assumption) (by assumption) (by assumption) (fun _ => by omega) (by assumption) ⟨by omega, by omega⟩)
    | (exact absurd (hpos (by assumption)) (by omega))
end Go.Tt
namespace Go.Tt
open Go Go.Sx Go.Lib Go.Sf
variable {N : Nat}
theorem right_empty {q s : Int} (h : slen s = 0) : RightP q s 0 := by
  intro _
  refine ⟨fun h => absurd rfl h, fun ⟨h1, _⟩ => ?_⟩
  exact absurd (slen_zero h) (sdec_ne.1 h1)
theorem prn_bare {s b : Int} (h : PrnP s 33 b) : b ≠ 0 ↔ ∀ c ∈ sdec s, 33 ≤ c.toNat ∧ c.toNat ≤ 126 :=
  ⟨fun hb c hc => by have := h.1 hb c hc; omega, fun hc => h.2 fun c h1 => by have := hc c h1; omega⟩
theorem has_quote {s : Int} : hasB s 34 = 0 ↔ ∀ c ∈ sdec s, c.toNat ≠ 34 := by
  unfold hasB
  have e : UInt8.ofNat (34 : Int).toNat = 34 := rfl
  rw [e]
  by_cases h : (34 : UInt8) ∈ sdec s
  · rw [if_pos h]
    exact ⟨(fun h => by cases h), fun hh => absurd rfl (hh 34 h)⟩
  · rw [if_neg h]
    refine ⟨fun _ c hc h34 => ?_, fun _ => rfl⟩
    have : c = 34 := UInt8.toNat.inj h34
    subst this
    exact h hc
theorem vRgt : ∀ ds, Sorts cRgt.sorts ds → tRgt.vc (TI N) ds := by
  refine all_i fun q => all_i fun s => all_n ?_
  set_option linter.unusedSimpArgs false in
  simp (config := { maxSteps := 10000000 }) only [tRgt, e1, e57, e58, e59, p60, p61, q65, q66, e67, e68, Tree.vc, PE.den, E.den, dens, BO.ev, List.getElem?_cons_zero, List.getElem?_cons_succ, List.cons_append, List.nil_append, Option.some.injEq, D.i.injEq, D.t.injEq, exists_eq_left', exists_const, forall_const, forall_eq', one_ne, one_eq, zero_ne, zero_eq, min_i64, max_i64, min_u8, max_u8, and_true, true_and, Decidable.not_not, S3, S5, S6, S7, S8, S9, S10, S11, S12, S20, S1000, S1001, S1002, S1003, S1004, S1005, S1010, S1011, P10, P11, P12, P13, P14, P15, P16, P17, P20, P21, P22, P30, P31, P32, P33, P34, P35, P36, P37, P38, S13, S14, S15, S1008, S1009, P23, P40, P41, P42, P43, P44, P45, P46, P47, P48, P49, P50, P51, P52, P53, P54, P55, P56, P57, P58, P59, P60, P61, P62, P63, P64, P65, P66, P67, P68, P69, P70, P71, P72, P80, P73, P74, P81, P82, P83, P84]
  intro hl
  have b5 : ∀ b, ¬ q = 0 → RightP q s b := fun b h h0 => absurd h0 h
  refine ⟨fun hq => ⟨fun _ _ _ => b5 _ hq, fun _ => b5 _ hq⟩, fun hq => ⟨fun hne => ⟨fun h200 w hw => ⟨fun h1 _ => ?_, fun h1 => ?_⟩, fun h200 => ?_⟩, fun h0 => ?_⟩⟩
  · have h2 := (prn_bare hw).1 h1
    by_cases h3 : hasB s 34 = 0
    · rw [if_pos h3]
      have h4 := has_quote.1 h3
      refine ⟨fun _ => ⟨sdec_ne.2 hne, by unfold slen at h200; omega, fun c hc => ?_⟩, fun _ => by decide⟩
      have := h2 c hc
      have := h4 c hc
      omega
    · rw [if_neg h3]
      refine ⟨fun h => absurd rfl h, fun ⟨_, _, h4⟩ => ?_⟩
      exact absurd (has_quote.2 fun c hc => (h4 c hc).2.2) h3
  · intro _
    refine ⟨fun h => absurd rfl h, fun ⟨_, _, h4⟩ => ?_⟩
    exact absurd h1 ((prn_bare hw).2 fun c hc => by have := h4 c hc; omega)
  · intro _
    refine ⟨fun h => absurd rfl h, fun ⟨_, h4, _⟩ => ?_⟩
    unfold slen at h200
    omega
  · subst h0
    exact right_empty rfl
theorem vUnqP : ∀ ds, Sorts cUnqP.sorts ds → tUnqP.vc (TI N) ds := by
  refine all_i fun s => all_n ?_
  set_option linter.unusedSimpArgs false in
  simp (config := { maxSteps := 10000000 }) only [tUnqP, e0, e1, e11, e45, e46, q47, e48, e49, e50, e51, p52, p53, p54, e55, e56, e57, e58, e59, p60, p61, e62, e63, e64, Tree.vc, PE.den, E.den, dens, BO.ev, List.getElem?_cons_zero, List.getElem?_cons_succ, List.cons_append, List.nil_append, Option.some.injEq, D.i.injEq, D.t.injEq, exists_eq_left', exists_const, forall_const, forall_eq', one_ne, one_eq, zero_ne, zero_eq, min_i64, max_i64, min_u8, max_u8, and_true, true_and, Decidable.not_not, S3, S5, S6, S7, S8, S9, S10, S11, S12, S20, S1000, S1001, S1002, S1003, S1004, S1005, S1010, S1011, P10, P11, P12, P13, P14, P15, P16, P17, P20, P21, P22, P30, P31, P32, P33, P34, P35, P36, P37, P38, S13, S14, S15, S1008, S1009, P23, P40, P41, P42, P43, P44, P45, P46, P47, P48, P49, P50, P51, P52, P53, P54, P55, P56, P57, P58, P59, P60, P61, P62, P63, P64, P65, P66, P67, P68, P69, P70, P71, P72, P80, P73, P74, P81, P82, P83, P84]
  intro hl
  have hn := slen_nonneg s
  have h0 := slen_0
  have hs := (slen_ssub s 1 (slen s - 1)).2
  have hq : slen (-18) = 1 := rfl
  repeat' with_reducible first | apply And.intro | intro _
  all_goals first | exact True.intro | omega | (rw [slen_scat, hq]; omega)
end Go.Tt
namespace Go.Tt
open Go Go.Sx Go.Lib Go.Sf
variable {N : Nat}
theorem spl_long {s : Int} (h : 4096 < slen s) (T : Tb) (n : Int) {e : Int} (he : e ≠ 0) : SplP s T n e := ⟨fun _ _ _ h1 _ => by omega, fun h1 => absurd h1 he⟩
theorem spl_none : SplP 0 (fun _ _ => 0) 0 0 := by
  refine ⟨fun ws hB _ _ hs => ?_, fun _ _ => ⟨[], (fun _ h => by cases h), by simp, rfl, rfl, fun r hr => by omega⟩⟩
  have : ws = [] := by
    cases ws with
    | nil => rfl
    | cons w l =>
      exact absurd hs.symm (joinW_ne (by simp) hB)
  subst this
  exact ⟨rfl, rfl, fun r hr => by omega⟩
theorem ix_not {s v : Int} {u : Int} (h : IxI s v (slen s) u) : IxP s v (-1) u := .inl ⟨rfl, h⟩
theorem vIxF : ∀ ds, Sorts cIxF.sorts ds → tIxF.vc (TI N) ds := by
  refine all_i fun s => all_i fun v => all_n ?_
  set_option linter.unusedSimpArgs false in
  simp (config := { maxSteps := 10000000 }) only [tIxF, e0, e1, p2, p16, e34, p35, e36, e43, e69, e70, e71, e72, e73, e74, q75, q76, q77, Tree.vc, PE.den, E.den, dens, BO.ev, List.getElem?_cons_zero, List.getElem?_cons_succ, List.cons_append, List.nil_append, Option.some.injEq, D.i.injEq, D.t.injEq, exists_eq_left', exists_const, forall_const, forall_eq', one_ne, one_eq, zero_ne, zero_eq, min_i64, max_i64, min_u8, max_u8, and_true, true_and, Decidable.not_not, S3, S5, S6, S7, S8, S9, S10, S11, S12, S20, S1000, S1001, S1002, S1003, S1004, S1005, S1010, S1011, P10, P11, P12, P13, P14, P15, P16, P17, P20, P21, P22, P30, P31, P32, P33, P34, P35, P36, P37, P38, S13, S14, S15, S1008, S1009, P23, P40, P41, P42, P43, P44, P45, P46, P47, P48, P49, P50, P51, P52, P53, P54, P55, P56, P57, P58, P59, P60, P61, P62, P63, P64, P65, P66, P67, P68, P69, P70, P71, P72, P80, P73, P74, P81, P82, P83, P84]
  intro hl
  have hn := slen_nonneg s
  refine ⟨hn, ix_begin s v, fun q u h0 h1 hI => ⟨fun h2 => ?_, fun h2 => ?_⟩⟩
  · have hr := rune_spec h0 h2
    have hw := width_le h0 h2
    have hw1 : 1 ≤ swidth s q := by omega
    have nx := @ix_next s v q u hI h0 h2
    have qu := @ix_quote s v q u hI h0 h2
    have fd := @ix_found s v q u hI h0 h2
    repeat' with_reducible first | omega | apply And.intro | intro _
    all_goals first | (refine qu (by assumption) _) | (refine nx (by assumption) (by omega)) | (refine fd (by assumption)) | (refine nx (by assumption) (fun hh => ?_); grind) | (exfalso; omega)
  · have := ix_end hI (by omega)
    repeat' with_reducible first | omega | (exact ix_not this) | apply And.intro | intro _
theorem vSplP : ∀ ds, Sorts (cSpl 68).sorts ds → tSplP.vc (TI N) ds := by
  refine all_i fun s => all_n ?_
  set_option linter.unusedSimpArgs false in
  simp (config := { maxSteps := 10000000 }) only [tSplP, e0, e1, p2, e11, e45, e57, p60, e72, p78, q79, p80, p81, e82, e83, p84, e85, q86, p87, p88, e89, e90, p91, p92, e93, e94, e95, e96, e97, e98, e99, p100, p101, e102, e103, p104, q105, Tree.vc, PE.den, E.den, dens, BO.ev, List.getElem?_cons_zero, List.getElem?_cons_succ, List.cons_append, List.nil_append, Option.some.injEq, D.i.injEq, D.t.injEq, exists_eq_left', exists_const, forall_const, forall_eq', one_ne, one_eq, zero_ne, zero_eq, min_i64, max_i64, min_u8, max_u8, and_true, true_and, Decidable.not_not, S3, S5, S6, S7, S8, S9, S10, S11, S12, S20, S1000, S1001, S1002, S1003, S1004, S1005, S1010, S1011, P10, P11, P12, P13, P14, P15, P16, P17, P20, P21, P22, P30, P31, P32, P33, P34, P35, P36, P37, P38, S13, S14, S15, S1008, S1009, P23, P40, P41, P42, P43, P44, P45, P46, P47, P48, P49, P50, P51, P52, P53, P54, P55, P56, P57, P58, P59, P60, P61, P62, P63, P64, P65, P66, P67, P68, P69, P70, P71, P72, P80, P73, P74, P81, P82, P83, P84]
  intro hl
  have hn := slen_nonneg s
  have h00 : ∀ r : Int, 0 ≤ r → r < 0 → slen 0 ≤ 100000 := fun r h1 h2 => by omega
  refine ⟨fun h => ⟨h00, spl_long h _ _ (by decide)⟩, fun h4096 => ⟨fun h => ?_, fun hne => ⟨by omega, h00, pc_begin hne, fun r v T n h0 h1 hR hP => ⟨by omega, fun a u ha0 ha1 hI => ⟨fun ha => ?_, fun ha => ?_⟩⟩⟩⟩⟩
  · subst h; exact ⟨h00, spl_none⟩
  · have hm : a = -1 := by omega
    subst hm
    have bad : (hpre r (-18) ≠ 0 ∨ ¬ BareW (sdec r)) → ∀ (T' : Tb) m, SplP s T' m 6 := fun h T' m => pc_bad hP hI (.inr ⟨by omega, rfl⟩) h T' m (by decide)
    have hrn := slen_nonneg r
    refine ⟨fun hq => ⟨by omega, fun x e hx => ⟨fun _ => bad (.inl hq) _ _, fun _ => ⟨by omega, fun b _ => ⟨fun _ => bad (.inl hq) _ _, fun _ => ⟨by omega, fun h64 => ?_, fun h64 => ?_⟩⟩⟩⟩⟩, fun hq b hb => ⟨fun h => ?_, fun h => ⟨by omega, fun h64 => ?_, fun h64 => ?_⟩⟩⟩
    · exact (pc_last hP h0 hI (q := 1) (x := x) (fun h => absurd h hq) (fun h => by cases h)).1 h64 _
    · exact ⟨by omega, rows_next hR (by omega), (pc_last hP h0 hI (q := 1) (x := x) (fun h => absurd h hq) (fun h => by cases h)).2 h64⟩
    · exact bad (.inr fun hw => (hb rfl).2 hw h) _ _
    · exact (pc_last hP h0 hI (q := 0) (x := r) (fun _ => ⟨rfl, rfl⟩) (fun _ => ⟨rfl, (hb rfl).1 h⟩)).1 h64 _
    · exact ⟨by omega, rows_next hR (by omega), (pc_last hP h0 hI (q := 0) (x := r) (fun _ => ⟨rfl, rfl⟩) (fun _ => ⟨rfl, (hb rfl).1 h⟩)).2 h64⟩
  · have hrn := slen_nonneg r
    have ha' : 0 ≤ a := by omega
    have hs1 := (slen_ssub r 0 a).2
    have hs2 := (slen_ssub r (a + 1) (slen r)).1
    have hs3 := slen_nonneg (ssub r (a + 1) (slen r))
    have har : a < slen r := by
      rcases hI with ⟨h, _⟩ | ⟨_, h, _⟩
      · omega
      · exact h
    have bad : (hpre (ssub r 0 a) (-18) ≠ 0 ∨ ¬ BareW (sdec (ssub r 0 a))) → ∀ (T' : Tb) m, SplP s T' m 6 := fun h T' m => pc_bad hP hI (.inl ⟨ha', rfl⟩) h T' m (by decide)
    refine ⟨by omega, fun hq => ⟨by omega, fun x e hx => ⟨fun _ => bad (.inl hq) _ _, fun _ => ⟨by omega, fun b _ => ⟨fun _ => bad (.inl hq) _ _, fun _ => ?_⟩⟩⟩⟩, fun hq => ⟨by omega, fun b hb => ⟨fun h => ?_, fun h => ?_⟩⟩⟩
    · have h9 := rows_next (q := 1) hR (x := x) (by omega)
      have h8 := pc_next hP h0 hI ha' (q := 1) (x := x) (fun h => absurd h hq) (fun h => by cases h)
      repeat' with_reducible first | omega | exact h8 | exact h9 | apply And.intro | intro _
    · exact bad (.inr fun hw => (hb rfl).2 hw h) _ _
    · have h9 := rows_next (q := 0) hR (x := ssub r 0 a) (by omega)
      have h8 := pc_next hP h0 hI ha' (q := 0) (x := ssub r 0 a) (fun _ => ⟨rfl, rfl⟩) (fun _ => ⟨rfl, (hb rfl).1 h⟩)
      repeat' with_reducible first | omega | exact h8 | exact h9 | apply And.intro | intro _
end Go.Tt
namespace Go.Tt
open Go Go.Sx Go.Lib Go.Sf
variable {N : Nat}
theorem vFld : ∀ ds, Sorts cFld.sorts ds → tFld.vc (TI N) ds := by
  refine all_t fun T => all_i fun lo => all_i fun n => all_i fun b => all_i fun q => all_n ?_
  set_option linter.unusedSimpArgs false in
  simp (config := { maxSteps := 10000000 }) only [tFld, e1, e17, e27, p29, e34, e46, e62, p106, p107, q108, p109, p110, p111, e112, p113, Tree.vc, PE.den, E.den, dens, BO.ev, List.getElem?_cons_zero, List.getElem?_cons_succ, List.cons_append, List.nil_append, Option.some.injEq, D.i.injEq, D.t.injEq, exists_eq_left', exists_const, forall_const, forall_eq', one_ne, one_eq, zero_ne, zero_eq, min_i64, max_i64, min_u8, max_u8, and_true, true_and, Decidable.not_not, S3, S5, S6, S7, S8, S9, S10, S11, S12, S20, S1000, S1001, S1002, S1003, S1004, S1005, S1010, S1011, P10, P11, P12, P13, P14, P15, P16, P17, P20, P21, P22, P30, P31, P32, P33, P34, P35, P36, P37, P38, S13, S14, S15, S1008, S1009, P23, P40, P41, P42, P43, P44, P45, P46, P47, P48, P49, P50, P51, P52, P53, P54, P55, P56, P57, P58, P59, P60, P61, P62, P63, P64, P65, P66, P67, P68, P69, P70, P71, P72, P80, P73, P74, P81, P82, P83, P84]
  intro h0 h1 h2 hR
  have h00 : slen 0 ≤ 100000 := by rw [slen_0]; omega
  refine ⟨fun h => ⟨h00, .inr ⟨by omega, rfl, rfl, rfl, rfl⟩⟩, fun h => ⟨by omega, by omega, fun h3 => ⟨h00, .inr ⟨by omega, rfl, rfl, rfl, rfl⟩⟩, fun h3 => ?_⟩⟩
  exact ⟨by omega, by omega, by omega, by omega, by omega, hR lo h0 (by omega), .inl ⟨by omega, h3, rfl, rfl, rfl, rfl⟩⟩
theorem vNum : ∀ ds, Sorts cNum.sorts ds → tNum.vc (TI N) ds := by
  refine all_t fun T => all_i fun lo => all_i fun n => all_i fun b => all_i fun q => all_n ?_
  set_option linter.unusedSimpArgs false in
  simp (config := { maxSteps := 10000000 }) only [tNum, e1, e17, e34, e89, p106, p114, p115, p116, p117, Tree.vc, PE.den, E.den, dens, BO.ev, List.getElem?_cons_zero, List.getElem?_cons_succ, List.cons_append, List.nil_append, Option.some.injEq, D.i.injEq, D.t.injEq, exists_eq_left', exists_const, forall_const, forall_eq', one_ne, one_eq, zero_ne, zero_eq, min_i64, max_i64, min_u8, max_u8, and_true, true_and, Decidable.not_not, S3, S5, S6, S7, S8, S9, S10, S11, S12, S20, S1000, S1001, S1002, S1003, S1004, S1005, S1010, S1011, P10, P11, P12, P13, P14, P15, P16, P17, P20, P21, P22, P30, P31, P32, P33, P34, P35, P36, P37, P38, S13, S14, S15, S1008, S1009, P23, P40, P41, P42, P43, P44, P45, P46, P47, P48, P49, P50, P51, P52, P53, P54, P55, P56, P57, P58, P59, P60, P61, P62, P63, P64, P65, P66, P67, P68, P69, P70, P71, P72, P80, P73, P74, P81, P82, P83, P84]
  intro h0 h1 h2 hR s lo' n' b' g0 g1 g2 g3 hF x e hx hI
  refine ⟨fun hb => ⟨s, b', e, hF, hI, by rw [if_pos (.inl hb)]⟩, fun hb => ⟨s, b', e, hF, hI, ?_⟩⟩
  by_cases he : e = 0
  · simp [he, hb]
  · simp [he]
theorem vStp : ∀ ds, Sorts cStp.sorts ds → tStp.vc (TI N) ds := by
  refine all_i fun s => all_n ?_
  set_option linter.unusedSimpArgs false in
  simp (config := { maxSteps := 10000000 }) only [tStp, e0, e1, p2, e34, e46, e70, e71, e72, e83, p87, e89, p107, p111, p114, e137, e138, e186, e187, e188, e189, e190, e191, e192, e193, e194, e195, e196, e197, e205, e209, p301, p302, q303, p304, p305, p306, p307, p308, p309, p310, e311, p312, e313, p314, p315, p316, p317, p318, p319, p320, p321, p322, p323, p324, p325, p326, e327, e328, p329, p330, p331, p332, p333, e334, p335, p336, p337, p338, p339, e340, e341, e342, p343, e344, e345, p346, p347, e348, e349, e350, e351, p352, e353, e354, p355, p356, p357, p358, p359, p360, p361, e362, e363, p364, p365, p366, q367, Tree.vc, PE.den, E.den, dens, BO.ev, List.getElem?_cons_zero, List.getElem?_cons_succ, List.cons_append, List.nil_append, Option.some.injEq, D.i.injEq, D.t.injEq, exists_eq_left', exists_const, forall_const, forall_eq', one_ne, one_eq, zero_ne, zero_eq, min_i64, max_i64, min_u8, max_u8, and_true, true_and, Decidable.not_not, S3, S5, S6, S7, S8, S9, S10, S11, S12, S20, S1000, S1001, S1002, S1003, S1004, S1005, S1010, S1011, P10, P11, P12, P13, P14, P15, P16, P17, P20, P21, P22, P30, P31, P32, P33, P34, P35, P36, P37, P38, S13, S14, S15, S1008, S1009, P23, P40, P41, P42, P43, P44, P45, P46, P47, P48, P49, P50, P51, P52, P53, P54, P55, P56, P57, P58, P59, P60, P61, P62, P63, P64, P65, P66, P67, P68, P69, P70, P71, P72, P80, P73, P74, P81, P82, P83, P84]
  intro hs T n e h0 h64 hR hS
  have h00 : slen 0 ≤ 100000 := by rw [slen_0]; omega
  refine ⟨fun h => ⟨h00, raw_none fun t h1 h2 h3 => h (spl_of hS h1 h2 h3).1⟩, fun h => ⟨by omega, fun v lo' n' b' g0 g1 g2 g3 hF => ⟨fun hv => ?_, fun hv => ?_⟩⟩⟩
  · subst hv
    repeat' with_reducible first | (exfalso; omega) | apply And.intro | intro _
    all_goals first | exact h00 | exact raw_kind (h ▸ hS) hF kcase0
  · subst h
    refine ⟨fun hv => ?_, fun hv1 => ?_⟩
    · have rd := rd_first hS hF
      rw [show sdec v = kw.getD 1 [] from by rw [← hv]; rfl] at rd
      intro a l0 m0 b0 _ _ _ _ hF0
      have rd := rd_name 1 (by decide) hS rd hF0 rfl (show (1 : Nat) < 5 by decide)
      intro x p0 q0 r0 hx _ _ _ hN0
      have rd := rd_numb 1 0 (by decide) hS rd hN0 rfl rfl (by decide)
      intro y p1 q1 r1 hy _ _ _ hN1
      have rd := rd_numb 1 1 (by decide) hS rd hN1 rfl rfl (by decide)
      intro z p2 q2 r2 hz _ _ _ hN2
      have rd := rd_numb 1 2 (by decide) hS rd hN2 rfl rfl (by decide)
      exact tail_a (k := 1) (a := a) (b := 0) (x := x) (y := y) (z := z) ⟨hS, by decide, by decide, rfl, rfl, rfl, norm_mk 1 rfl (by decide) (fun h => absurd h (by decide)) (fun _ => rfl) ⟨hx, fun h => absurd h (by decide)⟩ ⟨hy, fun h => absurd h (by decide)⟩ ⟨hz, fun h => absurd h (by decide)⟩⟩ rd
    refine ⟨fun hv => ?_, fun hv2 => ?_⟩
    · have rd := rd_first hS hF
      rw [show sdec v = kw.getD 2 [] from by rw [← hv]; rfl] at rd
      intro a l0 m0 b0 _ _ _ _ hF0
      have rd := rd_name 2 (by decide) hS rd hF0 rfl (show (1 : Nat) < 2 by decide)
      exact tail_a (k := 2) (a := a) (b := 0) (x := 0) (y := 0) (z := 0) ⟨hS, by decide, by decide, rfl, rfl, rfl, norm_mk 2 rfl (by decide) (fun h => absurd h (by decide)) (fun _ => rfl) ⟨i64_0, fun _ => rfl⟩ ⟨i64_0, fun _ => rfl⟩ ⟨i64_0, fun _ => rfl⟩⟩ rd
    refine ⟨fun hv => ?_, fun hv3 => ?_⟩
    · have rd := rd_first hS hF
      rw [show sdec v = kw.getD 3 [] from by rw [← hv]; rfl] at rd
      intro a l0 m0 b0 _ _ _ _ hF0
      have rd := rd_name 3 (by decide) hS rd hF0 rfl (show (1 : Nat) < 5 by decide)
      intro b l1 m1 b1 _ _ _ _ hF1
      have rd := rd_name 3 (by decide) hS rd hF1 rfl (show (2 : Nat) < 5 by decide)
      intro x p0 q0 r0 hx _ _ _ hN0
      have rd := rd_numb 3 0 (by decide) hS rd hN0 rfl rfl (by decide)
      intro y p1 q1 r1 hy _ _ _ hN1
      have rd := rd_numb 3 1 (by decide) hS rd hN1 rfl rfl (by decide)
      exact tail_b (k := 3) (a := a) (b := b) (x := x) (y := y) (z := 0) ⟨hS, by decide, by decide, rfl, rfl, rfl, norm_mk 3 rfl (by decide) (fun h => absurd h (by decide)) (fun h => absurd h (by decide)) ⟨hx, fun h => absurd h (by decide)⟩ ⟨hy, fun h => absurd h (by decide)⟩ ⟨i64_0, fun _ => rfl⟩⟩ rd
    refine ⟨fun hv => ?_, fun hv4 => ?_⟩
    · have rd := rd_first hS hF
      rw [show sdec v = kw.getD 4 [] from by rw [← hv]; rfl] at rd
      intro a l0 m0 b0 _ _ _ _ hF0
      have rd := rd_name 4 (by decide) hS rd hF0 rfl (show (1 : Nat) < 3 by decide)
      intro b l1 m1 b1 _ _ _ _ hF1
      have rd := rd_name 4 (by decide) hS rd hF1 rfl (show (2 : Nat) < 3 by decide)
      exact tail_b (k := 4) (a := a) (b := b) (x := 0) (y := 0) (z := 0) ⟨hS, by decide, by decide, rfl, rfl, rfl, norm_mk 4 rfl (by decide) (fun h => absurd h (by decide)) (fun h => absurd h (by decide)) ⟨i64_0, fun _ => rfl⟩ ⟨i64_0, fun _ => rfl⟩ ⟨i64_0, fun _ => rfl⟩⟩ rd
    refine ⟨fun hv => ?_, fun hv5 => ?_⟩
    · have rd := rd_first hS hF
      rw [show sdec v = kw.getD 5 [] from by rw [← hv]; rfl] at rd
      intro a l0 m0 b0 _ _ _ _ hF0
      have rd := rd_name 5 (by decide) hS rd hF0 rfl (show (1 : Nat) < 3 by decide)
      intro b l1 m1 b1 _ _ _ _ hF1
      have rd := rd_name 5 (by decide) hS rd hF1 rfl (show (2 : Nat) < 3 by decide)
      exact tail_b (k := 5) (a := a) (b := b) (x := 0) (y := 0) (z := 0) ⟨hS, by decide, by decide, rfl, rfl, rfl, norm_mk 5 rfl (by decide) (fun h => absurd h (by decide)) (fun h => absurd h (by decide)) ⟨i64_0, fun _ => rfl⟩ ⟨i64_0, fun _ => rfl⟩ ⟨i64_0, fun _ => rfl⟩⟩ rd
    refine ⟨fun hv => ?_, fun hv6 => ?_⟩
    · have rd := rd_first hS hF
      rw [show sdec v = kw.getD 6 [] from by rw [← hv]; rfl] at rd
      intro a l0 m0 b0 _ _ _ _ hF0
      have rd := rd_name 6 (by decide) hS rd hF0 rfl (show (1 : Nat) < 2 by decide)
      exact tail_a (k := 6) (a := a) (b := 0) (x := 0) (y := 0) (z := 0) ⟨hS, by decide, by decide, rfl, rfl, rfl, norm_mk 6 rfl (by decide) (fun h => absurd h (by decide)) (fun _ => rfl) ⟨i64_0, fun _ => rfl⟩ ⟨i64_0, fun _ => rfl⟩ ⟨i64_0, fun _ => rfl⟩⟩ rd
    refine ⟨fun hv => ?_, fun hv7 => ?_⟩
    · have rd := rd_first hS hF
      rw [show sdec v = kw.getD 7 [] from by rw [← hv]; rfl] at rd
      intro a l0 m0 b0 _ _ _ _ hF0
      have rd := rd_name 7 (by decide) hS rd hF0 rfl (show (1 : Nat) < 4 by decide)
      intro b l1 m1 b1 _ _ _ _ hF1
      have rd := rd_name 7 (by decide) hS rd hF1 rfl (show (2 : Nat) < 4 by decide)
      intro x p0 q0 r0 hx _ _ _ hN0
      have rd := rd_numb 7 0 (by decide) hS rd hN0 rfl rfl (by decide)
      exact tail_b (k := 7) (a := a) (b := b) (x := x) (y := 0) (z := 0) ⟨hS, by decide, by decide, rfl, rfl, rfl, norm_mk 7 rfl (by decide) (fun h => absurd h (by decide)) (fun h => absurd h (by decide)) ⟨hx, fun h => absurd h (by decide)⟩ ⟨i64_0, fun _ => rfl⟩ ⟨i64_0, fun _ => rfl⟩⟩ rd
    refine ⟨fun hv => ?_, fun hv8 => ?_⟩
    · have rd := rd_first hS hF
      rw [show sdec v = kw.getD 8 [] from by rw [← hv]; rfl] at rd
      intro a l0 m0 b0 _ _ _ _ hF0
      have rd := rd_name 8 (by decide) hS rd hF0 rfl (show (1 : Nat) < 5 by decide)
      intro b l1 m1 b1 _ _ _ _ hF1
      have rd := rd_name 8 (by decide) hS rd hF1 rfl (show (2 : Nat) < 5 by decide)
      intro x p0 q0 r0 hx _ _ _ hN0
      have rd := rd_numb 8 0 (by decide) hS rd hN0 rfl rfl (by decide)
      intro y p1 q1 r1 hy _ _ _ hN1
      have rd := rd_numb 8 1 (by decide) hS rd hN1 rfl rfl (by decide)
      exact tail_b (k := 8) (a := a) (b := b) (x := x) (y := y) (z := 0) ⟨hS, by decide, by decide, rfl, rfl, rfl, norm_mk 8 rfl (by decide) (fun h => absurd h (by decide)) (fun h => absurd h (by decide)) ⟨hx, fun h => absurd h (by decide)⟩ ⟨hy, fun h => absurd h (by decide)⟩ ⟨i64_0, fun _ => rfl⟩⟩ rd
    refine ⟨fun hv => ?_, fun hv9 => ?_⟩
    · have rd := rd_first hS hF
      rw [show sdec v = kw.getD 9 [] from by rw [← hv]; rfl] at rd
      intro x p0 q0 r0 hx _ _ _ hN0
      have rd := rd_numb 9 0 (by decide) hS rd hN0 rfl rfl (by decide)
      exact tail_a (k := 9) (a := 0) (b := 0) (x := x) (y := 0) (z := 0) ⟨hS, by decide, by decide, rfl, rfl, rfl, norm_mk 9 rfl (by decide) (fun _ => rfl) (fun _ => rfl) ⟨hx, fun h => absurd h (by decide)⟩ ⟨i64_0, fun _ => rfl⟩ ⟨i64_0, fun _ => rfl⟩⟩ rd
    refine ⟨fun hv => ?_, fun hv10 => ?_⟩
    · have rd := rd_first hS hF
      rw [show sdec v = kw.getD 10 [] from by rw [← hv]; rfl] at rd
      exact tail_a (k := 10) (a := 0) (b := 0) (x := 0) (y := 0) (z := 0) ⟨hS, by decide, by decide, rfl, rfl, rfl, norm_mk 10 rfl (by decide) (fun _ => rfl) (fun _ => rfl) ⟨i64_0, fun _ => rfl⟩ ⟨i64_0, fun _ => rfl⟩ ⟨i64_0, fun _ => rfl⟩⟩ rd
    refine ⟨fun hv => ?_, fun hv11 => ?_⟩
    · have rd := rd_first hS hF
      rw [show sdec v = kw.getD 11 [] from by rw [← hv]; rfl] at rd
      intro x p0 q0 r0 hx _ _ _ hN0
      have rd := rd_numb 11 0 (by decide) hS rd hN0 rfl rfl (by decide)
      exact tail_a (k := 11) (a := 0) (b := 0) (x := x) (y := 0) (z := 0) ⟨hS, by decide, by decide, rfl, rfl, rfl, norm_mk 11 rfl (by decide) (fun _ => rfl) (fun _ => rfl) ⟨hx, fun h => absurd h (by decide)⟩ ⟨i64_0, fun _ => rfl⟩ ⟨i64_0, fun _ => rfl⟩⟩ rd
    refine ⟨fun hv => ?_, fun hv12 => ?_⟩
    · have rd := rd_first hS hF
      rw [show sdec v = kw.getD 12 [] from by rw [← hv]; rfl] at rd
      intro x p0 q0 r0 hx _ _ _ hN0
      have rd := rd_numb 12 0 (by decide) hS rd hN0 rfl rfl (by decide)
      intro y p1 q1 r1 hy _ _ _ hN1
      have rd := rd_numb 12 1 (by decide) hS rd hN1 rfl rfl (by decide)
      intro z p2 q2 r2 hz _ _ _ hN2
      have rd := rd_numb 12 2 (by decide) hS rd hN2 rfl rfl (by decide)
      exact tail_a (k := 12) (a := 0) (b := 0) (x := x) (y := y) (z := z) ⟨hS, by decide, by decide, rfl, rfl, rfl, norm_mk 12 rfl (by decide) (fun _ => rfl) (fun _ => rfl) ⟨hx, fun h => absurd h (by decide)⟩ ⟨hy, fun h => absurd h (by decide)⟩ ⟨hz, fun h => absurd h (by decide)⟩⟩ rd
    refine ⟨fun hv => ?_, fun hv13 => ?_⟩
    · have rd := rd_first hS hF
      rw [show sdec v = kw.getD 13 [] from by rw [← hv]; rfl] at rd
      intro a l0 m0 b0 _ _ _ _ hF0
      have rd := rd_name 13 (by decide) hS rd hF0 rfl (show (1 : Nat) < 2 by decide)
      exact tail_a (k := 13) (a := a) (b := 0) (x := 0) (y := 0) (z := 0) ⟨hS, by decide, by decide, rfl, rfl, rfl, norm_mk 13 rfl (by decide) (fun h => absurd h (by decide)) (fun _ => rfl) ⟨i64_0, fun _ => rfl⟩ ⟨i64_0, fun _ => rfl⟩ ⟨i64_0, fun _ => rfl⟩⟩ rd
    exact ⟨h00, raw_kind hS hF (kcase ⟨⟨hv1, hv2, hv3, hv4, hv5, hv6, hv7⟩, hv8, hv9, hv10, hv11, hv12, hv13⟩)⟩
end Go.Tt
