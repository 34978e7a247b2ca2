/-
  The lives of blocks, in plain words: what is there before a step, when it ends. Conditions: none; nothing here speaks of a program.
-/
import Derived.Test.YtdelhnefoccnbaaGreatDoorC5
import Derived.Test.YtdelhnefoccnbaaGreatDoorB1
namespace Go.Tt
open Go Go.Sx Go.Lib Go.Sf
theorem cnt_pos (T : Tb) : ∀ k, 0 ≤ cnt T k ∧ cnt T k ≤ k
  | 0 => by simp [cnt]
  | k + 1 => by
    have := cnt_pos T k
    simp only [cnt]
    split <;> omega
theorem cnt_le (T : Tb) (k : Nat) : ∀ d, cnt T k ≤ cnt T (k + d)
  | 0 => by simp
  | d + 1 => by
    have := cnt_le T k d
    have e : cnt T (k + (d + 1)) = cnt T (k + d) + if T ((k + d : Nat) : Int) 0 = 3 then 1 else 0 := rfl
    rw [e]; split <;> omega
theorem cnt_lt {T : Tb} {k j : Nat} (hk : T k 0 = 3) (h : k < j) : cnt T k < cnt T j := by
  have h1 := cnt_le T (k + 1) (j - (k + 1))
  have e : k + 1 + (j - (k + 1)) = j := by omega
  rw [e] at h1
  have e2 : cnt T (k + 1) = cnt T k + 1 := by simp only [cnt]; rw [if_pos hk]
  omega
theorem cnt_inj {T : Tb} {k j : Nat} (hk : T k 0 = 3) (hj : T j 0 = 3) (h : cnt T k = cnt T j) : k = j := by
  rcases Nat.lt_trichotomy k j with h1 | h1 | h1
  · have := cnt_lt hk h1; omega
  · exact h1
  · have := cnt_lt hj h1; omega
theorem cnt_hit {T : Tb} : ∀ (i : Nat) (r : Int), 0 ≤ r → r < cnt T i → ∃ k, k < i ∧ T k 0 = 3 ∧ cnt T k = r
  | 0, r, h0, h1 => by simp [cnt] at h1; omega
  | i + 1, r, h0, h1 => by
    simp only [cnt] at h1
    by_cases hr : r < cnt T i
    · obtain ⟨k, h2, h3⟩ := cnt_hit i r h0 hr
      exact ⟨k, by omega, h3⟩
    · split at h1
      · rename_i h3; exact ⟨i, by omega, h3, by omega⟩
      · omega
theorem thr_mem {T : Tb} {n : Int} : ∀ {i k : Nat}, k ∈ thr T n i → k < i ∧ (T k 0 = 3 ∨ T k 0 = 4)
  | 0, k, h => by simp [thr] at h
  | i + 1, k, h => by
    simp only [thr, List.mem_append] at h
    rcases h with h | h
    · have := thr_mem ((List.mem_filter.1 h).1)
      exact ⟨by omega, this.2⟩
    · split at h
      · rename_i h2
        simp at h; subst h
        exact ⟨by omega, h2⟩
      · simp at h
theorem thr_sorted {T : Tb} {n : Int} : ∀ i, (thr T n i).Pairwise (· < ·)
  | 0 => by simp [thr]
  | i + 1 => by
    simp only [thr, List.pairwise_append]
    refine ⟨(thr_sorted i).filter _, by split <;> simp, fun a ha b hb => ?_⟩
    have := (thr_mem ((List.mem_filter.1 ha).1)).1
    split at hb
    · simp at hb; omega
    · simp at hb
theorem thr_len {T : Tb} {n : Int} : ∀ i, (thr T n i).length ≤ i
  | 0 => by simp [thr]
  | i + 1 => by
    have := thr_len (T := T) (n := n) i
    have h2 := List.length_filter_le (fun k => !goes T n i (thr T n i) k) (thr T n i)
    simp only [thr, List.length_append]
    split <;> simp <;> omega
theorem endA_ge {T : Tb} {n : Int} : ∀ {i k : Nat}, i ≤ k → endA T n i k = n
  | 0, k, _ => rfl
  | i + 1, k, h => by
    simp only [endA]
    rw [if_neg fun hh => by have := (thr_mem hh.1).1; omega]
    exact endA_ge (by omega)
theorem life {T : Tb} {n : Int} : ∀ {i k : Nat}, k < i → (T k 0 = 3 ∨ T k 0 = 4) →
    (k ∈ thr T n i ∧ endA T n i k = n) ∨ (k ∉ thr T n i ∧ ∃ j : Nat, k < j ∧ j < i ∧ endA T n i k = j ∧ k ∈ thr T n j ∧ goes T n j (thr T n j) k = true)
  | 0, k, h, _ => by omega
  | i + 1, k, h, hk => by
    have hin : ∀ x, x ∈ thr T n (i + 1) ↔ (x ∈ thr T n i ∧ goes T n i (thr T n i) x = false) ∨ (x = i ∧ (T i 0 = 3 ∨ T i 0 = 4)) := fun x => by
      simp only [thr, List.mem_append, List.mem_filter, Bool.not_eq_true']
      constructor
      · rintro (h | h)
        · exact .inl h
        · split at h
          · rename_i h2; exact .inr ⟨by simpa using h, h2⟩
          · simp at h
      · rintro (h | ⟨rfl, h⟩)
        · exact .inl h
        · right; rw [if_pos h]; simp
    by_cases hki : k = i
    · subst hki
      exact .inl ⟨(hin k).2 (.inr ⟨rfl, hk⟩), by
        simp only [endA]
        rw [if_neg fun hh => by have := (thr_mem hh.1).1; omega]
        exact endA_ge (Nat.le_refl _)⟩
    · rcases life (i := i) (n := n) (by omega) hk with ⟨h1, h2⟩ | ⟨h1, j, h2, h3, h4, h5⟩
      · by_cases hg : goes T n i (thr T n i) k = true
        · refine .inr ⟨fun hh => ?_, i, by omega, by omega, by simp only [endA]; rw [if_pos ⟨h1, hg⟩], h1, hg⟩
          rcases (hin k).1 hh with ⟨_, h3⟩ | ⟨h3, _⟩
          · rw [hg] at h3; cases h3
          · omega
        · refine .inl ⟨(hin k).2 (.inl ⟨h1, by simpa using hg⟩), ?_⟩
          simp only [endA]; rw [if_neg fun hh => hg hh.2]; exact h2
      · refine .inr ⟨fun hh => ?_, j, h2, by omega, ?_, h5⟩
        · rcases (hin k).1 hh with ⟨h3, _⟩ | ⟨h3, _⟩
          · exact h1 h3
          · omega
        · simp only [endA]; rw [if_neg fun hh => h1 hh.1]; exact h4
theorem end_stays {T : Tb} {n : Int} {i k : Nat} (hk : k < i) (h : k ∉ thr T n i) : ∀ d, k ∉ thr T n (i + d) ∧ endA T n (i + d) k = endA T n i k
  | 0 => ⟨h, rfl⟩
  | d + 1 => by
    obtain ⟨h1, h2⟩ := end_stays hk h d
    refine ⟨fun hh => ?_, ?_⟩
    · have e : thr T n (i + (d + 1)) = (thr T n (i + d)).filter (fun x => !goes T n (i + d : Nat) (thr T n (i + d)) x) ++ if T ((i + d : Nat) : Int) 0 = 3 ∨ T ((i + d : Nat) : Int) 0 = 4 then [i + d] else [] := rfl
      rw [e, List.mem_append] at hh
      rcases hh with hh | hh
      · exact h1 ((List.mem_filter.1 hh).1)
      · split at hh
        · simp at hh; omega
        · simp at hh
    · have e : endA T n (i + (d + 1)) k = if k ∈ thr T n (i + d) ∧ goes T n (i + d : Nat) (thr T n (i + d)) k = true then ((i + d : Nat) : Int) else endA T n (i + d) k := rfl
      rw [e, if_neg fun hh => h1 hh.1, h2]
theorem end_rng {T : Tb} {n : Int} {N k : Nat} (hN : n = N) (hk : k < N) (h3 : T k 0 = 3 ∨ T k 0 = 4) : (k : Int) < endA T n N k ∧ endA T n N k ≤ n := by
  rcases life (n := n) hk h3 with ⟨_, h⟩ | ⟨_, j, h1, h2, h, _⟩ <;> omega
theorem nested {T : Tb} {n : Int} {N k j : Nat} (hN : n = N) (hkj : k < j) (hj : j < N) (hk3 : T k 0 = 3 ∨ T k 0 = 4) (hj3 : T j 0 = 3 ∨ T j 0 = 4) (ha : T k 1 = T j 1) (hlt : (j : Int) < endA T n N k) : endA T n N j ≤ endA T n N k := by
  rcases life (n := n) (show k < N by omega) hk3 with ⟨_, h⟩ | ⟨_, i, h1, h2, h, h4, h5⟩
  · rw [h]; exact (end_rng hN hj hj3).2
  · rw [h] at hlt ⊢
    have hji : j < i := by omega
    have hg : k ∈ thr T n i → T j 1 = T i 1 ∧ bhd T n i (thr T n i) < (j : Int) := fun _ => by
      have := h5
      simp only [goes, decide_eq_true_eq] at this
      exact ⟨by rw [← ha]; exact this.1, by omega⟩
    obtain ⟨g1, g2⟩ := hg h4
    have e : ∃ i', i = i' := ⟨i, rfl⟩
    rcases life (n := n) hji hj3 with ⟨m1, m2⟩ | ⟨m1, q, m2, m3, m4, _⟩
    · have e1 : endA T n (i + 1) j = i := by simp only [endA]; rw [if_pos ⟨m1, by simp only [goes, decide_eq_true_eq]; exact ⟨g1, g2⟩⟩]
      have e2 : j ∉ thr T n (i + 1) := fun hh => by
        simp only [thr, List.mem_append, List.mem_filter] at hh
        rcases hh with ⟨_, hh⟩ | hh
        · simp [goes, g1, g2] at hh
        · split at hh
          · simp at hh; omega
          · simp at hh
      have := (end_stays (n := n) (show j < i + 1 by omega) e2 (N - (i + 1))).2
      rw [show i + 1 + (N - (i + 1)) = N by omega] at this
      rw [this, e1]; exact Int.le_refl _
    · have := (end_stays (n := n) hji m1 (N - i)).2
      rw [show i + (N - i) = N by omega] at this
      rw [this, m4]; omega
theorem sorted_cut {l : List Nat} (hs : l.Pairwise (· < ·)) {r m : Nat} (h : l[r]? = some m) :
    l.filter (fun k => !decide (m < k)) = l.take (r + 1) ∧ ∀ k, k ∈ l.drop (r + 1) ↔ k ∈ l ∧ m < k := by
  obtain ⟨hr, rfl⟩ := List.getElem?_eq_some_iff.1 h
  have hle : ∀ a (ha : a < l.length), a ≤ r → l[a] ≤ l[r] := fun a ha har => by
    rcases Nat.lt_or_eq_of_le har with h1 | h1
    · exact Nat.le_of_lt (List.pairwise_iff_getElem.1 hs a r ha hr h1)
    · subst h1; exact Nat.le_refl _
  have hgt : ∀ a (ha : a < l.length), r < a → l[r] < l[a] := fun a ha har => List.pairwise_iff_getElem.1 hs r a hr ha har
  constructor
  · generalize hm : l[r] = m at hle hgt
    have e : l.filter (fun k => !decide (m < k)) = (l.take (r + 1) ++ l.drop (r + 1)).filter (fun k => !decide (m < k)) := by rw [List.take_append_drop]
    rw [e, List.filter_append, List.filter_eq_self.2, List.filter_eq_nil_iff.2, List.append_nil]
    · intro k hk
      obtain ⟨a, ha, rfl⟩ := List.mem_iff_getElem.1 hk
      simp only [List.getElem_drop]
      have := hgt (r + 1 + a) (by simp at ha; omega) (by omega)
      simp; omega
    · intro k hk
      obtain ⟨a, ha, rfl⟩ := List.mem_iff_getElem.1 hk
      simp only [List.getElem_take]
      have := hle a (by simp at ha; omega) (by simp at ha; omega)
      simp; omega
  · intro k
    constructor
    · intro hk
      obtain ⟨a, ha, rfl⟩ := List.mem_iff_getElem.1 hk
      simp only [List.getElem_drop]
      exact ⟨List.getElem_mem _, hgt _ (by simp at ha; omega) (by omega)⟩
    · rintro ⟨hk, hm⟩
      obtain ⟨a, ha, rfl⟩ := List.mem_iff_getElem.1 hk
      have : r < a := by
        rcases Nat.lt_or_ge r a with h1 | h1
        · exact h1
        · have := hle a ha h1; omega
      refine List.mem_iff_getElem.2 ⟨a - (r + 1), by simp; omega, ?_⟩
      simp only [List.getElem_drop]
      congr 1; omega
end Go.Tt
namespace Go.Tt
open Go Go.Sx Go.Lib Go.Sf
variable {T O F M : Tb} {n m : Int} {i : Nat}
theorem code_a {k : Nat} (h : T k 0 = 3) : code T k = cnt T k := by unfold code; rw [if_pos h]
theorem code_m {k : Nat} (h : T k 0 = 4) : code T k = -(k : Int) - 1 := by unfold code; rw [if_neg (by omega)]
theorem code_of {k j : Nat} (hk : T k 0 = 3 ∨ T k 0 = 4) (h : code T k = -(j : Int) - 1) : k = j ∧ T k 0 = 4 := by
  rcases hk with h3 | h4
  · rw [code_a h3] at h; have := (cnt_pos T k).1; omega
  · rw [code_m h4] at h; exact ⟨by omega, h4⟩
theorem of_thr (k : Nat) (κ : Int) : k ∈ ofA T n (i : Int) κ ↔ k ∈ thr T n i ∧ T k 1 = κ := by simp [ofA]
theorem of_sorted (κ : Int) : (ofA T n (i : Int) κ).Pairwise (· < ·) := by unfold ofA; exact (thr_sorted _).filter _
theorem of_len (κ : Int) : (ofA T n (i : Int) κ).length ≤ i := by
  have h1 := List.length_filter_le (fun k : Nat => decide (T k 1 = κ)) (thr T n i)
  have h2 := thr_len (T := T) (n := n) i
  simp only [ofA, Int.toNat_natCast]; omega
theorem of_kind {k : Nat} {κ : Int} (h : k ∈ ofA T n (i : Int) κ) : k < i ∧ (T k 0 = 3 ∨ T k 0 = 4) := thr_mem ((of_thr k κ).1 h).1
theorem succ_toNat : ((i : Int) + 1).toNat = i + 1 := by omega
theorem of_succ (κ : Int) : ofA T n ((i : Int) + 1) κ = (ofA T n i κ).filter (fun k => !goes T n i (thr T n i) k) ++ if (T i 0 = 3 ∨ T i 0 = 4) ∧ T i 1 = κ then [i] else [] := by
  simp only [ofA, succ_toNat, Int.toNat_natCast, thr, List.filter_append]
  congr 1
  · rw [List.filter_filter, List.filter_filter]
    congr 1; funext k; exact Bool.and_comm _ _
  · by_cases h1 : T i 0 = 3 ∨ T i 0 = 4
    · by_cases h2 : T i 1 = κ
      · simp [h1, h2]
      · simp [h1, h2]
    · simp [h1]
structure Keep (T : Tb) (n : Int) (i k : Nat) : Prop where
  le : k ≤ (ofA T n i (T i 1)).length
  take : (ofA T n i (T i 1)).filter (fun x => !goes T n i (thr T n i) x) = (ofA T n i (T i 1)).take k
  drop : ∀ q, q ∈ thr T n i ∧ goes T n i (thr T n i) q = true ↔ q ∈ (ofA T n i (T i 1)).drop k
theorem goes_iff {l : List Nat} {k : Nat} : goes T n i l k = true ↔ T k 1 = T i 1 ∧ bhd T n i l < (k : Int) := by simp [goes]
theorem keep_all (h : bhd T n i (thr T n i) = n) (hi : (i : Int) < n) : Keep T n i (ofA T n i (T i 1)).length := by
  have no : ∀ q, q ∈ thr T n i → goes T n i (thr T n i) q = false := fun q hq => by
    have := (thr_mem hq).1
    rw [Bool.eq_false_iff]
    intro hg
    have := (goes_iff.1 hg).2
    omega
  refine ⟨Nat.le_refl _, ?_, fun q => ?_⟩
  · rw [List.take_length, List.filter_eq_self.2]
    intro q hq
    rw [no q ((of_thr q _).1 hq).1]; rfl
  · rw [List.drop_length]
    constructor
    · rintro ⟨h1, h2⟩; rw [no q h1] at h2; cases h2
    · intro h; simp at h
theorem keep_none (h : T i 0 = 2 ∨ T i 0 = 6) : Keep T n i 0 := by
  have hb : bhd T n i (thr T n i) = -1 := by unfold bhd; rw [if_pos h]
  refine ⟨Nat.zero_le _, ?_, fun q => ?_⟩
  · rw [List.take_zero, List.filter_eq_nil_iff]
    intro q hq
    have : goes T n i (thr T n i) q = true := goes_iff.2 ⟨((of_thr q _).1 hq).2, by omega⟩
    rw [this]; simp
  · rw [List.drop_zero, of_thr, goes_iff]
    constructor
    · rintro ⟨h1, h2, _⟩; exact ⟨h1, h2⟩
    · rintro ⟨h1, h2⟩; exact ⟨h1, h2, by omega⟩
theorem bhd_rew {l : List Nat} (h : T i 0 = 5) {k : Nat} (hm : mkAt T n i = some k) : bhd T n i l = if k ∈ l then (k : Int) else n := by
  unfold bhd
  rw [if_neg (by omega), if_pos h, hm]
theorem keep_rew (h : T i 0 = 5) {r k : Nat} (hm : mkAt T n i = some k) (hr : (ofA T n i (T i 1))[r]? = some k) : Keep T n i (r + 1) := by
  have hk := (of_thr k _).1 (List.mem_of_getElem? hr)
  have hb : bhd T n i (thr T n i) = k := by rw [bhd_rew h hm, if_pos hk.1]
  obtain ⟨h1, h2⟩ := sorted_cut (of_sorted (T := T) (n := n) (i := i) (T i 1)) hr
  have hl := (List.getElem?_eq_some_iff.1 hr).1
  refine ⟨by omega, ?_, fun q => ?_⟩
  · rw [← h1]
    apply List.filter_congr
    intro q hq
    congr 1
    rw [Bool.eq_iff_iff, goes_iff, decide_eq_true_eq, hb]
    constructor
    · rintro ⟨_, h3⟩; omega
    · intro h3; exact ⟨((of_thr q _).1 hq).2, by omega⟩
  · rw [h2, of_thr, goes_iff, hb]
    constructor
    · rintro ⟨h3, h4, h5⟩; exact ⟨⟨h3, h4⟩, by omega⟩
    · rintro ⟨⟨h3, h4⟩, h5⟩; exact ⟨h3, h4, by omega⟩
theorem keep_stay (h : T i 0 = 5) (hi : (i : Int) < n) {k : Nat} (hm : mkAt T n i = some k) (hr : k ∉ thr T n i) : Keep T n i (ofA T n i (T i 1)).length :=
  keep_all (by rw [bhd_rew h hm, if_neg hr]) hi
theorem keep_other (h2 : T i 0 ≠ 2) (h5 : T i 0 ≠ 5) (h6 : T i 0 ≠ 6) (hi : (i : Int) < n) : Keep T n i (ofA T n i (T i 1)).length :=
  keep_all (by unfold bhd; rw [if_neg (by omega), if_neg h5]) hi
theorem of_keep {k : Nat} (h : Keep T n i k) : ofA T n ((i : Int) + 1) (T i 1) = (ofA T n i (T i 1)).take k ++ if T i 0 = 3 ∨ T i 0 = 4 then [i] else [] := by
  rw [of_succ, h.take]; simp
theorem of_else {κ : Int} (h : κ ≠ T i 1) : ofA T n ((i : Int) + 1) κ = ofA T n i κ := by
  rw [of_succ, if_neg fun hh => h hh.2.symm, List.append_nil, List.filter_eq_self]
  intro q hq
  have : goes T n i (thr T n i) q = false := by
    rw [Bool.eq_false_iff]
    intro hg
    exact h ((((of_thr q _).1 hq).2).symm.trans (goes_iff.1 hg).1)
  rw [this]; rfl
theorem end_keep {k : Nat} (h : Keep T n i k) (q : Nat) : endA T n ((i : Int) + 1).toNat q = if q ∈ (ofA T n i (T i 1)).drop k then (i : Int) else endA T n i q := by
  rw [succ_toNat]
  simp only [endA]
  by_cases hq : q ∈ (ofA T n i (T i 1)).drop k
  · rw [if_pos hq, if_pos ((h.drop q).2 hq)]
  · rw [if_neg hq, if_neg fun hh => hq ((h.drop q).1 hh)]
theorem fam_len {κ : Int} (h : FamI T n (i : Int) F) : 0 ≤ F κ 0 ∧ F κ 0 ≤ i ∧ (F κ 0).toNat = (ofA T n i κ).length := by
  have := (h κ).1
  have := of_len (T := T) (n := n) (i := i) κ
  omega
theorem fam_0 : FamI T n 0 (fun _ _ => 0) := fun κ => by
  have : ofA T n 0 κ = [] := by simp [ofA, thr]
  rw [this]; simp
theorem fam_next {k : Nat} (h : FamI T n (i : Int) F) (hK : Keep T n i k) (hn : T i 0 ≠ 3 ∧ T i 0 ≠ 4) : FamI T n ((i : Int) + 1) (fput F (T i 1) (fmem F (T i 1)) k) := fun κ => by
  by_cases hκ : κ = T i 1
  · subst hκ
    rw [of_keep hK, if_neg (by omega), List.append_nil]
    have hle := hK.le
    refine ⟨by simp [fput]; omega, fun j q hj => ?_⟩
    rw [List.getElem?_take] at hj
    split at hj
    · have := (h (T i 1)).2 j q hj
      simp only [fput, if_true, if_neg (Nat.succ_ne_zero j), Nat.add_sub_cancel]
      simpa [fmem] using this
    · cases hj
  · rw [of_else hκ]
    have := h κ
    simp only [fput, if_neg hκ]
    exact this
theorem fam_new (h : FamI T n (i : Int) F) (hK : Keep T n i (ofA T n i (T i 1)).length) (hn : T i 0 = 3 ∨ T i 0 = 4) {x : Int} (hx : x = code T i) :
    FamI T n ((i : Int) + 1) (fput F (T i 1) (tupd (fmem F (T i 1)) (F (T i 1) 0) 0 x) (F (T i 1) 0 + 1)) := fun κ => by
  by_cases hκ : κ = T i 1
  · subst hκ
    rw [of_keep hK, if_pos hn, List.take_length]
    have hl := (h (T i 1)).1
    refine ⟨by simp [fput, hl], fun j q hj => ?_⟩
    have e : fput F (T i 1) (tupd (fmem F (T i 1)) (F (T i 1) 0) 0 x) (F (T i 1) 0 + 1) (T i 1) (j + 1) = if (j : Int) = F (T i 1) 0 then x else F (T i 1) (j + 1) := by
      simp only [fput, if_true, if_neg (Nat.succ_ne_zero j), Nat.add_sub_cancel, tupd, and_true, fmem, Int.toNat_natCast]
    rw [e]
    rcases Nat.lt_or_ge j (ofA T n i (T i 1)).length with hlt | hge
    · rw [List.getElem?_append_left hlt] at hj
      rw [if_neg (by omega)]
      exact (h (T i 1)).2 j q hj
    · rw [List.getElem?_append_right hge] at hj
      have hj0 : j - (ofA T n i (T i 1)).length = 0 := by
        rcases Nat.eq_zero_or_pos (j - (ofA T n i (T i 1)).length) with h1 | h1
        · exact h1
        · rw [List.getElem?_eq_none (by simp; omega)] at hj; cases hj
      rw [hj0] at hj
      simp at hj
      subst hj
      rw [if_pos (by omega)]; exact hx
  · rw [of_else hκ]
    have := h κ
    simp only [fput, if_neg hκ]
    exact this
theorem lv_0 {e : Nat → Int} : LvR T 0 O 0 e := ⟨rfl, fun k hk => by omega⟩
theorem lv_next {e e' : Nat → Int} (h : LvR T (i : Int) O m e) (hn : T i 0 ≠ 3) (he : ∀ q : Nat, q < i → T q 0 = 3 → e' q = e q) : LvR T ((i : Int) + 1) O m e' := by
  obtain ⟨h1, h2⟩ := h
  refine ⟨by rw [succ_toNat]; simp only [cnt]; rw [if_neg hn]; simpa using h1, fun k hk h3 => ?_⟩
  have hki : k ≠ i := fun e => by subst e; exact hn h3
  obtain ⟨g1, g2, g3, g4, g5, g6⟩ := h2 k (by omega) h3
  exact ⟨g1, g2, g3, g4, g5, by rw [he k (by omega) h3]; exact g6⟩
theorem lv_new {e e' : Nat → Int} (h : LvR T (i : Int) O m e) (hn : T i 0 = 3) (he : ∀ q : Nat, q < i → T q 0 = 3 → e' q = e q) (hi : e' i = n) :
    LvR T ((i : Int) + 1) (tupd (tupd (tupd (tupd (tupd (tupd O m 0 (T i 1)) m 1 (T i 2)) m 2 (T i 3)) m 3 (T i 4)) m 4 i) m 5 n) (m + 1) e' := by
  obtain ⟨h1, h2⟩ := h
  rw [Int.toNat_natCast] at h1
  refine ⟨by rw [succ_toNat]; simp only [cnt]; rw [if_pos hn, h1], fun k hk h3 => ?_⟩
  by_cases hki : k = i
  · subst hki
    simp [tupd, h1, hi]
  · obtain ⟨g1, g2, g3, g4, g5, g6⟩ := h2 k (by omega) h3
    have hne : cnt T k ≠ m := by
      have := cnt_lt h3 (show k < i by omega)
      omega
    simp only [tupd, hne, false_and, if_false]
    exact ⟨g1, g2, g3, g4, g5, by rw [he k (by omega) h3]; exact g6⟩
theorem lv_set {e : Nat → Int} {q0 : Nat} {x : Int} (h : LvR T (i : Int) O m e) (hq : T q0 0 = 3) : LvR T (i : Int) (tupd O (cnt T q0) 5 x) m fun q => if q = q0 then x else e q := by
  obtain ⟨h1, h2⟩ := h
  refine ⟨h1, fun k hk h3 => ?_⟩
  obtain ⟨g1, g2, g3, g4, g5, g6⟩ := h2 k hk h3
  by_cases hkq : k = q0
  · subst hkq
    simp [tupd, g1, g2, g3, g4, g5]
  · have hne : cnt T k ≠ cnt T q0 := fun e => hkq (cnt_inj h3 hq e)
    simp only [tupd, hne, false_and, if_false, if_neg hkq]
    exact ⟨g1, g2, g3, g4, g5, g6⟩
theorem lv_congr {e e' : Nat → Int} (h : LvR T (i : Int) O m e) (he : ∀ q : Nat, q < i → T q 0 = 3 → e' q = e q) : LvR T (i : Int) O m e' :=
  ⟨h.1, fun k hk h3 => by
    obtain ⟨g1, g2, g3, g4, g5, g6⟩ := h.2 k hk h3
    exact ⟨g1, g2, g3, g4, g5, by rw [he k (by omega) h3]; exact g6⟩⟩
theorem lvj_0 {k : Int} (h : LvR T (i : Int) O m (endA T n i)) : LvJ T n i O m k 0 := lv_congr h fun q _ _ => by simp
theorem lvj_next {k j : Nat} (hF : FamI T n (i : Int) F) (h : LvJ T n i O m k j) (hlt : ((k + j : Nat) : Int) < F (T i 1) 0) :
    (0 ≤ fmem F (T i 1) ((k : Int) + j) 0 → fmem F (T i 1) ((k : Int) + j) 0 < m ∧ LvJ T n i (tupd O (fmem F (T i 1) ((k : Int) + j) 0) 5 i) m k ((j : Int) + 1)) ∧
    (¬ 0 ≤ fmem F (T i 1) ((k : Int) + j) 0 → LvJ T n i O m k ((j : Int) + 1)) := by
  have hl := (fam_len (κ := T i 1) hF).2.2
  have hkj : k + j < (ofA T n i (T i 1)).length := by omega
  obtain ⟨q, hq⟩ : ∃ q, (ofA T n i (T i 1))[k + j]? = some q := ⟨_, List.getElem?_eq_getElem hkj⟩
  have hc : fmem F (T i 1) ((k : Int) + j) 0 = code T q := by
    have := (hF (T i 1)).2 _ _ hq
    have e : ((k : Int) + j).toNat = k + j := by omega
    simp only [fmem, e]; exact this
  obtain ⟨hqi, hq3⟩ := of_kind (List.mem_of_getElem? hq)
  have hmem : ∀ x, x ∈ ((ofA T n i (T i 1)).drop k).take (j + 1) ↔ x ∈ ((ofA T n i (T i 1)).drop k).take j ∨ x = q := fun x => by
    have : ((ofA T n i (T i 1)).drop k)[j]? = some q := by rw [List.getElem?_drop]; exact hq
    rw [List.take_add_one, this]
    simp
  have e1 : ((j : Int) + 1).toNat = j + 1 := by omega
  rw [hc]
  constructor
  · intro h0
    have h3 : T q 0 = 3 := by
      rcases hq3 with h3 | h4
      · exact h3
      · rw [code_m h4] at h0; omega
    rw [code_a h3]
    refine ⟨?_, lv_congr (lv_set h h3) fun x _ _ => ?_⟩
    · have := cnt_lt h3 hqi
      have := h.1
      rw [Int.toNat_natCast] at this
      omega
    · simp only [e1, Int.toNat_natCast, hmem]
      by_cases hx : x = q
      · rw [if_pos (.inr hx), if_pos hx]
      · rw [if_neg hx]
        by_cases hm : x ∈ ((ofA T n i (T i 1)).drop k).take j
        · rw [if_pos (.inl hm), if_pos hm]
        · rw [if_neg fun hh => hh.elim hm hx, if_neg hm]
  · intro h0
    have h3 : T q 0 ≠ 3 := fun h3 => h0 (by rw [code_a h3]; exact (cnt_pos T q).1)
    refine lv_congr h fun x _ hx3 => ?_
    have hxq : x ≠ q := fun e => h3 (e ▸ hx3)
    simp only [e1, Int.toNat_natCast, hmem]
    by_cases hm : x ∈ ((ofA T n i (T i 1)).drop k).take j
    · rw [if_pos (.inl hm), if_pos hm]
    · rw [if_neg fun hh => hh.elim hm hxq, if_neg hm]
theorem lvj_end {k j : Nat} (h : LvJ T n i O m k j) (hK : Keep T n i k) (hj : k + j = (ofA T n i (T i 1)).length) (hn : T i 0 ≠ 3) : LvR T ((i : Int) + 1) O m (endA T n ((i : Int) + 1).toNat) :=
  lv_next h hn fun q _ _ => by
    rw [end_keep hK]
    simp only [Int.toNat_natCast]
    rw [List.take_of_length_le (by simp; omega)]
theorem lv_keep (h : LvR T (i : Int) O m (endA T n (i : Int).toNat)) (hK : Keep T n i (ofA T n i (T i 1)).length) (hn : T i 0 ≠ 3) : LvR T ((i : Int) + 1) O m (endA T n ((i : Int) + 1).toNat) :=
  lv_next h hn fun q _ _ => by
    rw [end_keep hK, List.drop_length, if_neg (by simp)]; rfl
end Go.Tt
namespace Go.Tt
open Go Go.Sx Go.Lib Go.Sf
variable {T O F M : Tb} {n m : Int} {i : Nat}
theorem mark_new (ho : OkI T n) {j : Nat} (hj : (j : Int) < n) (h : T j 0 = 4) : ¬ Has T j 4 (T j 1) (T j 2) := fun hh => by
  have h0 := ho j (by omega) hj
  unfold aftR aftE at h0
  have he := name_step h0
  rw [he, h] at h0
  have e : kof (4 : Int).toNat = 4 := rfl
  rw [e] at h0
  by_cases hA : kar (4 : Int).toNat = 1 ∧ Made T j (T j 1)
  · rw [name_8 (.inl hA)] at h0; cases h0
  · rw [name_8 (.inr ⟨rfl, hh⟩)] at h0; cases h0
theorem mark_uniq (ho : OkI T n) {j k : Nat} (hj : (j : Int) < n) (hk : (k : Int) < n) (h4 : T j 0 = 4) (g4 : T k 0 = 4) (h1 : T j 1 = T k 1) (h2 : T j 2 = T k 2) : j = k := by
  rcases Nat.lt_trichotomy j k with h | h | h
  · exact absurd ⟨j, by omega, by omega, h4, h1, h2⟩ (mark_new ho hk g4)
  · exact h
  · exact absurd ⟨k, by omega, by omega, g4, h1.symm, h2.symm⟩ (mark_new ho hj h4)
theorem rewind_mark (ho : OkI T n) (hi : (i : Int) < n) (h : T i 0 = 5) : ∃ j : Nat, j < i ∧ T j 0 = 4 ∧ T j 1 = T i 1 ∧ T j 2 = T i 2 ∧ mkAt T n i = some j := by
  have h0 := ho i (by omega) hi
  unfold aftR aftE at h0
  have he := name_step h0
  rw [he, h] at h0
  have e : kof (5 : Int).toNat = 4 := rfl
  rw [e] at h0
  have hH : Has T i 4 (T i 1) (T i 2) := Classical.byContradiction fun hh => by
    have h8 : ¬ ((kar (5 : Int).toNat = 1 ∧ Made T i (T i 1)) ∨ (knm (5 : Int).toNat = 1 ∧ Has T i 4 (T i 1) (T i 2))) := by
      rintro (⟨h1, _⟩ | ⟨h1, _⟩) <;> cases h1
    rw [name_4 h8 (.inr ⟨rfl, hh⟩)] at h0; cases h0
  obtain ⟨j0, hj0, hj1, h4, h1, h2⟩ := hH
  obtain ⟨j, rfl⟩ := Int.eq_ofNat_of_zero_le hj0
  refine ⟨j, by omega, h4, h1, h2, ?_⟩
  unfold mkAt
  have hex : ((List.range n.toNat).find? fun j : Nat => decide (T j 0 = 4 ∧ T j 1 = T i 1 ∧ T j 2 = T i 2)).isSome := by
    rw [List.find?_isSome]
    exact ⟨j, by simp; omega, by simp [h4, h1, h2]⟩
  obtain ⟨k, hk⟩ := Option.isSome_iff_exists.1 hex
  rw [hk]
  have hp := List.find?_some hk
  have hm := List.mem_of_find?_eq_some hk
  simp only [decide_eq_true_eq] at hp
  simp only [List.mem_range] at hm
  rw [mark_uniq ho (j := k) (k := j) (by omega) (by omega) hp.1 h4 (by rw [hp.2.1, h1]) (by rw [hp.2.2, h2])]
def mKey (a b : Int) : Tb := tupd (tupd (tupd (fun _ _ => 0) 0 0 4) 0 1 a) 0 2 b
theorem mrk_0 : MrkI T 0 M 0 := ⟨fun r hr => by omega, fun j hj => by omega⟩
theorem mrk_find {q : Int} (h : MrkI T (i : Int) M q) (hq : 0 ≤ q) {j : Nat} (ho : OkI T n) (hin : (i : Int) ≤ n) (hj : j < i) (h4 : T j 0 = 4) :
    0 ≤ tfind M (mKey (T j 1) (T j 2)) 3 q.toNat 0 ∧ M (tfind M (mKey (T j 1) (T j 2)) 3 q.toNat 0) 3 = -(j : Int) - 1 := by
  rcases tfind_spec M (mKey (T j 1) (T j 2)) 3 q.toNat 0 with ⟨h1, h2⟩ | ⟨r, h1, _, h3, h5, _⟩
  · obtain ⟨r, hr, g0, g1, g2⟩ := h.2 j (by omega) h4
    obtain ⟨c, hc, hne⟩ := h2 r (Nat.zero_le _) (by omega)
    exfalso
    match c, hc with
    | 0, _ => exact hne (by rw [g0]; simp [mKey, tupd])
    | 1, _ => exact hne (by rw [g1]; simp [mKey, tupd])
    | 2, _ => exact hne (by rw [g2]; simp [mKey, tupd])
  · rw [h1]
    refine ⟨by omega, ?_⟩
    have k1 := h5 1 (by omega)
    have k2 := h5 2 (by omega)
    simp [mKey, tupd] at k1 k2
    obtain ⟨_, j', hj', g4, g1, g2, g3⟩ := h.1 r (by omega)
    rw [g3, mark_uniq ho (j := j') (k := j) (by omega) (by omega) g4 h4 (by rw [g1, k1]) (by rw [g2, k2])]
theorem mrk_next {q : Int} (h : MrkI T (i : Int) M q) (hn : T i 0 ≠ 4) : MrkI T ((i : Int) + 1) M q :=
  ⟨fun r hr => by
    obtain ⟨h1, j, h2, h3⟩ := h.1 r hr
    exact ⟨h1, j, by omega, h3⟩, fun j hj h4 => by
    have hji : j ≠ i := fun e => hn (e ▸ h4)
    exact h.2 j (by omega) h4⟩
theorem mrk_new {q : Int} (h : MrkI T (i : Int) M q) (hq : 0 ≤ q) (ho : OkI T n) (hin : (i : Int) < n) (h4 : T i 0 = 4) :
    ¬ 0 ≤ tfind M (mKey (T i 1) (T i 2)) 3 q.toNat 0 ∧ MrkI T ((i : Int) + 1) (mput M q (tupd (mKey (T i 1) (T i 2)) 0 3 (-(i : Int) - 1)) 3) (q + 1) := by
  have key : ∀ c, c < 3 → tupd (mKey (T i 1) (T i 2)) 0 3 (-(i : Int) - 1) 0 c = mKey (T i 1) (T i 2) 0 c := fun c hc => by simp only [tupd]; rw [if_neg (by omega)]
  have hno : ∀ r : Nat, (r : Int) < q → ¬ (M r 1 = T i 1 ∧ M r 2 = T i 2) := fun r hr hh => by
    obtain ⟨_, j, h2, h3, h5, h6, _⟩ := h.1 r hr
    have := mark_uniq ho (j := j) (k := i) (by omega) hin h3 h4 (by rw [h5, hh.1]) (by rw [h6, hh.2])
    omega
  have hnf : ∀ g : Tb, (∀ c, c < 3 → g 0 c = mKey (T i 1) (T i 2) 0 c) → ¬ 0 ≤ tfind M g 3 q.toNat 0 := fun g hg h0 => by
    rcases tfind_spec M g 3 q.toNat 0 with ⟨h1, _⟩ | ⟨r, h1, _, h3, h5, _⟩
    · omega
    · have k1 := h5 1 (by omega)
      have k2 := h5 2 (by omega)
      rw [hg 1 (by omega)] at k1
      rw [hg 2 (by omega)] at k2
      simp [mKey, tupd] at k1 k2
      exact hno r (by omega) ⟨k1, k2⟩
  refine ⟨hnf _ fun _ _ => rfl, ?_⟩
  have hmp : mput M q (tupd (mKey (T i 1) (T i 2)) 0 3 (-(i : Int) - 1)) 3 = fun r c => if r = q ∧ c ≤ 3 then tupd (mKey (T i 1) (T i 2)) 0 3 (-(i : Int) - 1) 0 c else M r c := by
    unfold mput
    rw [if_neg (hnf _ key)]
  rw [hmp]
  constructor
  · intro r hr
    by_cases hrq : (r : Int) = q
    · simp only [hrq, true_and]
      refine ⟨by simp [tupd, mKey], i, by omega, h4, by simp [tupd, mKey], by simp [tupd, mKey], by simp [tupd]⟩
    · obtain ⟨h1, j, h2, h3⟩ := h.1 r (by omega)
      simp only [hrq, false_and, if_false]
      exact ⟨h1, j, by omega, h3⟩
  · intro j hj g4
    by_cases hji : j = i
    · subst hji
      obtain ⟨Q, hQ⟩ := Int.eq_ofNat_of_zero_le hq
      refine ⟨Q, by omega, ?_⟩
      simp [hQ, tupd, mKey]
    · obtain ⟨r, h1, h2⟩ := h.2 j (by omega) g4
      refine ⟨r, by omega, ?_⟩
      have hrq : ¬ (r : Int) = q := by omega
      simp only [hrq, false_and, if_false]
      exact h2
theorem idx_at (hF : FamI T n (i : Int) F) {j : Nat} (h4 : T j 0 = 4) (h1 : T j 1 = T i 1) {r : Int} (h : IdxP (fmem F (T i 1)) (F (T i 1) 0) (-(j : Int) - 1) r) :
    (0 ≤ r → (ofA T n i (T i 1))[r.toNat]? = some j) ∧ (¬ 0 ≤ r → j ∉ thr T n i) := by
  have hl := fam_len (κ := T i 1) hF
  have hat : ∀ p : Nat, p < (ofA T n i (T i 1)).length → ∃ k, (ofA T n i (T i 1))[p]? = some k ∧ fmem F (T i 1) p 0 = code T k := fun p hp =>
    ⟨_, List.getElem?_eq_getElem hp, by simp only [fmem, Int.toNat_natCast]; exact (hF (T i 1)).2 p _ (List.getElem?_eq_getElem hp)⟩
  rcases h with ⟨h2, h3⟩ | ⟨h2, h3, h5, _⟩
  · refine ⟨fun h0 => by omega, fun _ hj => ?_⟩
    have hm : j ∈ ofA T n i (T i 1) := (of_thr j _).2 ⟨hj, h1⟩
    obtain ⟨p, hp, hpj⟩ := List.mem_iff_getElem.1 hm
    obtain ⟨k, hk, hc⟩ := hat p hp
    rw [List.getElem?_eq_getElem hp, hpj] at hk
    cases hk
    exact h3 p (by omega) (by omega) (by rw [hc, code_m h4])
  · refine ⟨fun _ => ?_, fun h0 => absurd h2 h0⟩
    obtain ⟨p, rfl⟩ := Int.eq_ofNat_of_zero_le h2
    obtain ⟨k, hk, hc⟩ := hat p (by omega)
    rw [hc] at h5
    have := (code_of (of_kind (List.mem_of_getElem? hk)).2 h5).1
    subst this
    rw [Int.toNat_natCast]; exact hk
end Go.Tt
namespace Go.Tt
open Go Go.Sx Go.Mg
def intK : List CK := [.int .i64]
def lfK : List CK := [.str, .str, .int .i64, .int .i64, .int .i64, .int .i64]
def bK : List CK := [.bool]
def cIdx : Contract := { c0 with fn := 18, sorts := [true, false, false, false], args := [.slice 0 z0 (v 1) 1 true, i64 (v 2)], mem := [(0, .rows intK (v 0) (v 3) false true)], nb := 1, pre := [eLe z0 (v 1), eLe (v 1) (v 3), eLe (v 1) (.lit 1000000)], outs := [false], res := i64 (v 4), post := [eLe (.lit (-1)) (v 4), .tt (.bin .lt (v 4) (.bin .add (v 1) (.lit 1))), .pr 85 [v 0, v 1, v 2, v 4]] }
def aIdx : Ann := ann 18 0 [0, 1, 7] [(8, i64 (v 4))] [false] [eLe z0 (v 4), eLe (v 4) (v 1), .pr 86 [v 0, v 4, v 2]] (.bin .sub (v 1) (v 4))
def cHas : Contract := { c0 with fn := 19, sorts := prgS ++ [false], args := [str (v 5), .ptr 0 z0 0 0], mem := [(0, .cells [i64 (v 0), i64 (v 1), i64 (v 2), .slice 1 z0 (v 4) 8 true] false), (1, prgB 0)], nb := 2, pre := prgP 0, outs := [false], res := .bool (v 6), post := [.pr 50 [v 3, v 4, v 5, v 6]] }
def aHas : Ann := ann 37 0 [0, 1, 7] [(8, i64 (v 6))] [false] [eLe z0 (v 6), eLe (v 6) (v 4), .pr 51 [v 3, v 6, v 5]] (.bin .sub (v 4) (v 6))
def prgF : AV := .agg [i64 (v 0), i64 (v 1), i64 (v 2), .slice 0 z0 (v 4) 8 false]
def prgN : AV := .agg [i64 (v 0), i64 (v 1), i64 (v 2), .nilslice]
def renPost : List PE := [.rng .i64 (v 7), .rng .i64 (v 8), .rng .i64 (v 9), eLe z0 (v 11), eLe (v 11) (.lit 1000000), .pr 45 [v 10, v 11], .pr 92 (prgV 0 ++ [v 5, v 6, v 7, v 8, v 9, v 10, v 11, v 12])]
def cRenF : Contract := { c0 with fn := 9, sorts := prgS ++ [false, false], args := [prgF, str (v 5), str (v 6)], mem := [(0, .rows stK (v 3) (v 4) false false)], nb := 1, pre := prgP 0 ++ [eLe (sln (v 5)) (.lit 100000), eLe (sln (v 6)) (.lit 100000)], outs := [false, false, false, true, false, false], res := .tup [.agg [i64 (v 7), i64 (v 8), i64 (v 9), .slice 1 z0 (v 11) 8 true], i64 (v 12)], fresh := [(1, .rows stK (v 10) (v 11) true true)], post := renPost }
def cRenN : Contract := { c0 with fn := 9, sorts := prgS ++ [false, false], args := [prgN, str (v 5), str (v 6)], mem := [(0, .rows stK (v 3) (v 4) false true)], nb := 1, pre := prgP 0 ++ [eLe (sln (v 5)) (.lit 100000), eLe (sln (v 6)) (.lit 100000), eLe (v 4) z0], outs := [false, false, false, true, false, false], res := .tup [.agg [i64 (v 7), i64 (v 8), i64 (v 9), .slice 1 z0 (v 11) 8 true], i64 (v 12)], fresh := [(1, .rows stK (v 10) (v 11) true true)], post := renPost }
def cRRen : Contract := { cRenF with fn := 10, args := [prg 0 0, str (v 5), str (v 6)], mem := [(0, prgB 0)] }
def aRen (f b t k : Nat) (nl : Bool) : Ann := { ann f b [1, 2, 3, 6, k] [(t, i64 (v 12))] [false, true] [eLe z0 (v 12), eLe (v 12) (v 4), .pr 89 [v 3, v 4, v 5, v 6, v 12, v 13]] (.bin .sub (v 4) (v 12)) with drop := [4], mem := [(4, .rows stK (v 13) (v 4) true nl)] }
def cLvs (f : FuncId) : Contract := { c0 with fn := f, sorts := prgS, args := [prg 0 0], mem := [(0, prgB 0)], nb := 1, pre := prgP 0, outs := [true, false, false], res := .tup [.slice 1 z0 (v 6) 6 true, i64 (v 7)], fresh := [(1, .rows lfK (v 5) (v 6) true true)], post := [eLe z0 (v 6), eLe (v 6) (.lit 1000000), .pr 87 (prgV 0 ++ [v 5, v 6, v 7])] }
def aLv0 : Ann := { ann 8 0 [1, 7, 8, 27, 28] [(29, i64 (v 7)), (6, .slice 4 z0 (v 9) 6 true)] [false, true, false, true, true, false] [eLe z0 (v 7), eLe (v 7) (v 4), eLe z0 (v 9), eLe (v 9) (v 7), eLe z0 (v 12), .pr 88 [v 3, v 4, v 7, v 8, v 9, v 10, v 11, v 12]] (.bin .sub (v 4) (v 7)) with
  drop := [2, 3], mem := [(2, .fam (.int .i64) (v 10) none), (3, .smp 3 false ntK (v 11) (v 12)), (4, .rows lfK (v 8) (v 9) true true)], nbl := 1 }
def memN : E := .sel (v 10) (.sel (v 3) (v 7) 1) 0
def aLv3 (b : Nat) (k ln : E) : Ann := { ann 8 3 [1, 6, 7, 8, 9, 10, 11, 12, 27, 28, 29, 107, 108] [(109, i64 (v b))] [false, true] [eLe z0 (v b), eLe (v b) ln, .pr 91 [v 3, v 4, v 7, v (b + 1), v 9, k, v b]] (.bin .sub ln (v b)) with
  drop := [4], mem := [(4, .rows lfK (v (b + 1)) (v 9) true true)], off := [108] }
def cFnd : Contract := { cFind with post := [eLe (.lit (-1)) (v 6), .tt (.bin .lt (v 6) (.bin .add (v 2) (.lit 1))), .pr 95 [v 0, v 2, v 3, v 4, v 5, v 6]] }
def cGone : Contract := { c0 with fn := 27, sorts := [true, false, true, false, false], args := [.slice 0 z0 (v 1) 8 true, .slice 1 z0 (v 3) 1 true, i64 (v 4)], mem := [(0, .rows stK (v 0) (v 1) false true), (1, .rows intK (v 2) (v 3) false true)], nb := 2, pre := inRows (v 4) (v 1) ++ [eLe (v 1) (.lit 1000), .pr 45 [v 0, v 1], eLe z0 (v 3), eLe (v 3) (.lit 1000), .pr 93 [v 2, v 3, v 1]], outs := [true], res := .slice 2 z0 (v 3) 1 false, fresh := [(2, .rows bK (v 5) (v 3) true false)], post := [.pr 94 [v 0, v 1, v 2, v 3, v 4, v 5]] }
def aGo0 : Ann := ann 27 0 [0, 1, 2, 7, 8, 10] [(11, i64 (v 6)), (9, i64 (v 7))] [false, false] [eLe z0 (v 6), eLe (v 6) (v 3), .pr 96 [v 2, v 6, v 5, v 1, v 7]] (.bin .sub (v 3) (v 6))
def aGo2 (b : Nat) : Ann := { ann 27 2 [0, 1, 7, 8] [(12, i64 (v b)), (9, i64 (v (b + 1)))] [false, false, true] [eLe z0 (v b), eLe (v b) (v 3), .pr 98 [v 0, v 1, v 2, v 3, v 4, v (b + 1)], .pr 97 [v 0, v 2, v 4, v (b + 1), v b, v (b + 2)]] (.bin .sub (v 3) (v b)) with
  drop := [2], mem := [(2, .rows bK (v (b + 2)) (v 3) true false)] }
def aRl0 : Ann := { ann 11 0 [1, 6, 7] [(9, i64 (v 7)), (8, .slice 3 z0 (v 10) 1 true)] [false, true, true, false] [eLe z0 (v 7), eLe (v 7) (v 4), eLe z0 (v 10), eLe (v 10) (v 7), .pr 99 [v 3, v 4, v 7, v 8, v 9, v 10]] (.bin .sub (v 4) (v 7)) with
  drop := [2], mem := [(2, .rows intK (v 8) (v 4) true false), (3, .rows intK (v 9) (v 10) true true)], nbl := 1 }
def aRl2 : Ann := { ann 11 2 [1, 6, 7, 8, 9, 11] [(12, i64 (v 12)), (10, .slice 5 z0 (v 15) 1 true)] [false, true, true, false] [eLe z0 (v 12), eLe (v 12) (v 10), eLe z0 (v 15), eLe (v 15) (v 12), .pr 100 [v 3, v 4, v 7, v 13, v 9, v 10, v 11, v 12, v 14, v 15]] (.bin .sub (v 10) (v 12)) with
  drop := [2], mem := [(2, .rows intK (v 13) (v 4) true false), (5, .rows intK (v 14) (v 15) true true)], nbl := 1 }
def aRl4 : Ann := { ann 11 4 [1, 6, 7] [(14, i64 (v 11)), (13, .slice 4 z0 (v 13) 6 true)] [false, true, false] [eLe z0 (v 11), eLe (v 11) (v 4), eLe z0 (v 13), eLe (v 13) (v 11), .pr 101 [v 3, v 4, v 11, v 8, v 12, v 13]] (.bin .sub (v 4) (v 11)) with
  mem := [(4, .rows lfK (v 12) (v 13) true true)], nbl := 1 }
def lawP : List PE := [eLe z0 (v 4), .rng .i64 (v 4), .pr 71 [v 3, v 4], .rng .i64 (v 0), .rng .i64 (v 1), .rng .i64 (v 2)]
def cNes : Contract := { c0 with fn := 3, sorts := prgS, args := [prg 0 0], mem := [(0, prgB 0)], nb := 1, pre := lawP, res := .bool (.lit 1) }
def aNe0 : Ann := ann 3 0 [1, 3] [(5, i64 (v 9))] [false] [eLe z0 (v 9), eLe (v 9) (v 7)] (.bin .sub (v 7) (v 9))
def aNe2 : Ann := ann 3 2 [1, 3, 5, 6] [(7, i64 (v 10))] [false] [eLe z0 (v 10), eLe (v 10) (v 9)] (.bin .sub (v 9) (v 10))
def cLivF : Contract := { c0 with fn := 4, sorts := prgS ++ [false, false], args := [prgF, str (v 5), str (v 6)], mem := [(0, .rows stK (v 3) (v 4) false false)], nb := 1, pre := lawP, res := .bool (.lit 1) }
def cLivN : Contract := { c0 with fn := 4, sorts := prgS ++ [false, false], args := [prgN, str (v 5), str (v 6)], mem := [(0, .rows stK (v 3) (v 4) false true)], nb := 1, pre := lawP ++ [eLe (v 4) z0], res := .bool (.lit 1) }
def aLi0 : Ann := ann 4 0 [11, 13] [(15, i64 (v 27))] [false] [eLe z0 (v 27), eLe (v 27) (v 21)] (.bin .sub (v 21) (v 27))
def xIdx (P : Program) : Cx := { P, cs := [], anns := [aIdx], kn := kn }
def xHas (P : Program) : Cx := { P, cs := [], anns := [aHas], kn := kn }
def xRen (P : Program) : Cx := { P, cs := [cCheck 16, cHas, cName 22], anns := [aRen 9 1 45 44 false], kn := kn }
def xRRen (P : Program) : Cx := { P, cs := [cCheck 24, cMade, cName 25], anns := [aRen 10 0 10 3 false], kn := kn }
def xLvs (P : Program) : Cx := { P, cs := [cCheck 16, cIdx], anns := [aLv0, aLv3 13 z0 memN, aLv3 14 (.bin .add (v 13) (.lit 1)) (.bin .sub memN (.bin .add (v 13) (.lit 1)))], kn := kn }
def xFnd (P : Program) : Cx := { P, cs := [], anns := [aFind], kn := kn }
def xGone (P : Program) : Cx := { P, cs := [cFnd], anns := [aGo0, aGo2 5, aGo2 8], kn := kn }
def xRLvs (P : Program) : Cx := { P, cs := [cCheck 24, cGone], anns := [aRl0, aRl2, aRl4], kn := kn }
def xNes (P : Program) : Cx := { P, cs := [cAw, cFar, cLvs 8], anns := [aNe0, aNe2], kn := kn }
def xLiv (P : Program) : Cx := { P, cs := [cAw, cFar, cRenF, cRenN, cRRen, cLvs 8, cLvs 11, cSame], anns := [aLi0], kn := kn }
end Go.Tt
namespace Go.Tt
open Go Go.Sx
set_option maxRecDepth 100000
def el0 : E := (κ 1000000)
def pl1 : PE := (γ ο (ν 4))
def el2 : E := (ξ (ν 0) (ν 4) 0)
def el3 : E := (π (ν 4) (κ 1))
def pl4 : PE := (γ (ν 4) el0)
def pl5 : PE := (.pr 45 [(ν 3), (ν 4)])
def el6 : E := (π (ν 6) (κ 1))
def ql7 : Tree := (α (ρ el6) (α (γ ο el6) (α (γ el6 (ν 4)) (α (.pr 51 [(ν 3), el6, (ν 5)]) (α (γ ο (δ (ν 4) el6)) (α (ω (δ (ν 4) el6) (δ (ν 4) (ν 6))) .ok))))))
def pl8 : PE := (γ (sln (ν 5)) (κ 100000))
def pl9 : PE := (γ (sln (ν 6)) (κ 100000))
def pl10 : PE := (γ (κ (-1)) (ν 7))
def pl11 : PE := (.pr 44 [(ν 0), (ν 1), (ν 2), (ν 3), (ν 4), (ν 7), (ν 8)])
def el12 : E := (χ (χ (ν 8) ο) ο)
def pl13 : PE := (.pr 45 [.zt, ο])
def ql14 : Tree := (α (.pr 92 [(ν 0), (ν 1), (ν 2), (ν 3), (ν 4), (ν 5), (ν 6), ο, ο, ο, .zt, ο, (ν 8)]) .ok)
def pl15 : PE := (.same (ν 9) (fn1 20 (ν 6)))
def el16 : E := (χ (fn1 20 (ν 6)) ο)
def ql17 : Tree := (α (.pr 92 [(ν 0), (ν 1), (ν 2), (ν 3), (ν 4), (ν 5), (ν 6), ο, ο, ο, .zt, ο, (κ 6)]) .ok)
def ql18 : Tree := (α (.pr 92 [(ν 0), (ν 1), (ν 2), (ν 3), (ν 4), (ν 5), (ν 6), ο, ο, ο, .zt, ο, (κ 4)]) .ok)
def ql19 : Tree := (α (.pr 92 [(ν 0), (ν 1), (ν 2), (ν 3), (ν 4), (ν 5), (ν 6), ο, ο, ο, .zt, ο, (κ 8)]) .ok)
def pl20 : PE := (γ ο (ν 12))
def el21 : E := (π (ν 12) (κ 1))
def ql22 : Tree := (α (γ ο (δ (ν 4) el21)) (α (ω (δ (ν 4) el21) (δ (ν 4) (ν 12))) .ok))
def ql23 : Tree := (η (μ (.pr 50 [(ν 3), (ν 4), (ν 5), (ν 10)]) (β (χ (ν 10) ο) (α pl13 ql18) (η (μ (.pr 50 [(ν 3), (ν 4), (ν 6), (ν 11)]) (β (ν 11) (α pl13 ql19) (α (.pr 89 [(ν 3), (ν 4), (ν 5), (ν 6), ο, (ν 3)]) (η (τ (μ pl20 (μ (γ (ν 12) (ν 4)) (μ (.pr 89 [(ν 3), (ν 4), (ν 5), (ν 6), (ν 12), (ν 13)]) (β (.bin .lt (ν 12) (ν 4)) (β (χ (ξ (ν 13) (ν 12) 1) (ν 5)) (α (ρ el21) (α (γ ο el21) (α (γ el21 (ν 4)) (α (.pr 89 [(ν 3), (ν 4), (ν 5), (ν 6), el21, (υ (ν 13) (ν 12) 1 (ν 6))]) ql22)))) (α (ρ el21) (α (γ ο el21) (α (γ el21 (ν 4)) (α (.pr 89 [(ν 3), (ν 4), (ν 5), (ν 6), el21, (ν 13)]) ql22))))) (α (.pr 45 [(ν 13), (ν 4)]) (α (.pr 92 [(ν 0), (ν 1), (ν 2), (ν 3), (ν 4), (ν 5), (ν 6), (ν 0), (ν 1), (ν 2), (ν 13), (ν 4), ο]) .ok)))))))))))))))
def pl24 : PE := (γ (κ (-1)) (ν 5))
def pl25 : PE := (.pr 44 [(ν 0), (ν 1), (ν 2), (ν 3), (ν 4), (ν 5), (ν 6)])
def ql26 : Tree := (α (.pr 87 [(ν 0), (ν 1), (ν 2), (ν 3), (ν 4), .zt, ο, (ν 6)]) .ok)
def el27 : E := (ξ (ν 3) (ν 7) 0)
def el28 : E := (π (ν 9) (κ 1))
def el29 : E := (ξ (ν 3) (ν 7) 1)
def el30 : E := (ξ (ν 10) el29 0)
def el31 : E := (π el30 (κ 1))
def el32 : E := (π (ν 7) (κ 1))
def pl33 : PE := (γ ο el32)
def pl34 : PE := (γ el32 (ν 4))
def el35 : E := (fn2 1012 (ν 10) el29)
def ql36 : Tree := (α (γ ο (δ (ν 4) el32)) (α (ω (δ (ν 4) el32) (δ (ν 4) (ν 7))) .ok))
def el37 : E := (δ (δ ο (ν 7)) (κ 1))
def pl38 : PE := (γ (ν 9) el32)
def el39 : E := (υ (υ (υ .zt ο 0 (κ 4)) ο 1 el29) ο 2 (ξ (ν 3) (ν 7) 2))
def el40 : E := (.fn 1008 (ν 11) (ν 12) el39 (κ 3))
def el41 : E := (.fn 1000 (.bin .le ο el40) (ν 12) el21 ο)
def el42 : E := (π (ν 13) (κ 1))
def el43 : E := (δ el30 el42)
def ql44 : Tree := (α (γ ο el43) (α (ω el43 (δ el30 (ν 13))) .ok))
def ql45 : Tree := (α (γ ο el30) (α (.pr 91 [(ν 3), (ν 4), (ν 7), (ν 8), (ν 9), ο, ο]) (η (τ (μ (γ ο (ν 13)) (μ (γ (ν 13) el30) (μ (.pr 91 [(ν 3), (ν 4), (ν 7), (ν 14), (ν 9), ο, (ν 13)]) (β (.bin .lt (ν 13) el30) (β (.bin .le ο (ξ el35 (ν 13) 0)) (α (ω (ξ el35 (ν 13) 0) (ν 9)) (α (ρ el42) (α (γ ο el42) (α (γ el42 el30) (α (.pr 91 [(ν 3), (ν 4), (ν 7), (υ (ν 14) (ξ el35 (ν 13) 0) 5 (ν 7)), (ν 9), ο, el42]) ql44))))) (α (ρ el42) (α (γ ο el42) (α (γ el42 el30) (α (.pr 91 [(ν 3), (ν 4), (ν 7), (ν 14), (ν 9), ο, el42]) ql44))))) (α (ρ el32) (α pl33 (α pl34 (α pl38 (α (.pr 88 [(ν 3), (ν 4), el32, (ν 14), (ν 9), (.fn 1013 (ν 10) el29 el35 ο), (ν 11), (ν 12)]) ql36)))))))))))))
def el46 : E := (ξ el35 (π el42 (ν 14)) 0)
def el47 : E := (π (ν 14) (κ 1))
def ql48 : Tree := (α (γ ο (δ el43 el47)) (α (ω (δ el43 el47) (δ el43 (ν 14))) .ok))
def ql49 : Tree := (α (ρ el32) (α pl33 (α pl34 (α pl38 (α (.pr 88 [(ν 3), (ν 4), el32, (ν 8), (ν 9), (.fn 1013 (ν 10) el29 el35 el30), (ν 11), (ν 12)]) ql36)))))
def ql50 : Tree := (α (ρ el6) (α (γ ο el6) (α (γ el6 (ν 2)) (α (.pr 53 [(ν 0), el6, (ν 3), (ν 4), (ν 5)]) (α (γ ο (δ (ν 2) el6)) (α (ω (δ (ν 2) el6) (δ (ν 2) (ν 6))) .ok))))))
def pl51 : PE := (.pr 95 [(ν 0), (ν 1), (κ 4), (ξ (ν 0) (ν 4) 1), (ξ (ν 0) (ν 4) 2), (ν 5)])
def ql52 : Tree := (α (γ ο (δ (ν 3) el6)) (α (ω (δ (ν 3) el6) (δ (ν 3) (ν 6))) .ok))
def el53 : E := (ξ (ν 2) (ν 8) 0)
def el54 : E := (π (ν 8) (κ 1))
def ql55 : Tree := (α (γ ο (δ (ν 3) el54)) (α (ω (δ (ν 3) el54) (δ (ν 3) (ν 8))) .ok))
def ql56 : Tree := (η (η (μ (γ ο (ν 6)) (μ (γ (ν 6) (ν 3)) (μ (.pr 96 [(ν 2), (ν 6), (ν 5), (ν 1), (ν 7)]) (β (.bin .lt (ν 6) (ν 3)) (β (χ (ξ (ν 2) (ν 6) 0) (ν 5)) (α (ρ el6) (α (γ ο el6) (α (γ el6 (ν 3)) (α (.pr 96 [(ν 2), el6, (ν 5), (ν 1), (ν 5)]) ql52)))) (α (ρ el6) (α (γ ο el6) (α (γ el6 (ν 3)) (α (.pr 96 [(ν 2), el6, (ν 5), (ν 1), (ν 7)]) ql52))))) (α (.pr 98 [(ν 0), (ν 1), (ν 2), (ν 3), (ν 4), (ν 7)]) (α (.pr 97 [(ν 0), (ν 2), (ν 4), (ν 7), ο, .zt]) (η (η (τ (μ (γ ο (ν 8)) (μ (γ (ν 8) (ν 3)) (μ (.pr 98 [(ν 0), (ν 1), (ν 2), (ν 3), (ν 4), (ν 9)]) (μ (.pr 97 [(ν 0), (ν 2), (ν 4), (ν 9), (ν 8), (ν 10)]) (β (.bin .lt (ν 8) (ν 3)) (α (γ ο el53) (α (ω el53 (ν 1)) (β (χ (ξ (ν 0) el53 1) (ξ (ν 0) (ν 4) 1)) (α (ρ el54) (α (γ ο el54) (α (γ el54 (ν 3)) (α (.pr 97 [(ν 0), (ν 2), (ν 4), (ν 9), el54, (υ (ν 10) (ν 8) 0 (.bin .lt (ν 9) el53))]) ql55)))) (α (ρ el54) (α (γ ο el54) (α (γ el54 (ν 3)) (α (.pr 97 [(ν 0), (ν 2), (ν 4), (ν 9), el54, (υ (ν 10) (ν 8) 0 ο)]) ql55))))))) (α (.pr 94 [(ν 0), (ν 1), (ν 2), (ν 3), (ν 4), (ν 10)]) .ok)))))))))))))))))
def el57 : E := (ξ (ν 2) (ν 5) 0)
def el58 : E := (π (ν 5) (κ 1))
def ql59 : Tree := (α (γ ο (δ (ν 3) el58)) (α (ω (δ (ν 3) el58) (δ (ν 3) (ν 5))) .ok))
def ql60 : Tree := (η (η (τ (μ (γ ο (ν 5)) (μ (γ (ν 5) (ν 3)) (μ (.pr 98 [(ν 0), (ν 1), (ν 2), (ν 3), (ν 4), (ν 6)]) (μ (.pr 97 [(ν 0), (ν 2), (ν 4), (ν 6), (ν 5), (ν 7)]) (β (.bin .lt (ν 5) (ν 3)) (α (γ ο el57) (α (ω el57 (ν 1)) (β (χ (ξ (ν 0) el57 1) (ξ (ν 0) (ν 4) 1)) (α (ρ el58) (α (γ ο el58) (α (γ el58 (ν 3)) (α (.pr 97 [(ν 0), (ν 2), (ν 4), (ν 6), el58, (υ (ν 7) (ν 5) 0 (.bin .lt (ν 6) el57))]) ql59)))) (α (ρ el58) (α (γ ο el58) (α (γ el58 (ν 3)) (α (.pr 97 [(ν 0), (ν 2), (ν 4), (ν 6), el58, (υ (ν 7) (ν 5) 0 ο)]) ql59))))))) (α (.pr 94 [(ν 0), (ν 1), (ν 2), (ν 3), (ν 4), (ν 7)]) .ok)))))))))
def ql61 : Tree := (β (χ el2 (κ 5)) (α (γ ο (ν 1)) (α (γ (ν 1) (ν 1)) (η (μ pl24 (μ (ω (ν 5) (π (ν 1) (κ 1))) (μ pl51 (α (.pr 96 [(ν 2), ο, (ν 5), (ν 1), (κ (-1))]) ql56))))))) (α (.pr 98 [(ν 0), (ν 1), (ν 2), (ν 3), (ν 4), (κ (-1))]) (α (.pr 97 [(ν 0), (ν 2), (ν 4), (κ (-1)), ο, .zt]) ql60)))
def el62 : E := (ξ (ν 9) (ν 12) 0)
def ql63 : Tree := (α (γ ο (δ (ν 10) el21)) (α (ω (δ (ν 10) el21) (δ (ν 10) (ν 12))) .ok))
def el64 : E := (π (ν 15) (κ 1))
def ql65 : Tree := (α (γ el64 el0) (α (ρ el32) (α pl33 (α pl34 (α (γ ο el64) (α (γ el64 el32) (α (.pr 99 [(ν 3), (ν 4), el32, (ν 13), (υ (ν 14) (ν 15) 0 (ν 7)), el64]) ql36)))))))
def el66 : E := (π (ν 11) (κ 1))
def ql67 : Tree := (α (γ ο (δ (ν 4) el66)) (α (ω (δ (ν 4) el66) (δ (ν 4) (ν 11))) .ok))
def pl68 : PE := (.pr 71 [(ν 3), (ν 4)])
def el69 : E := (ξ (ν 6) (ν 9) 4)
def ql70 : Tree := (.fail 100)
def el71 : E := (δ (ν 9) (κ 1))
def el72 : E := (π (ν 10) (κ 1))
def ql73 : Tree := (α (ρ el72) (α (γ ο el72) (α (γ el72 (ν 9)) (α (γ ο (δ (ν 9) el72)) (α (ω (δ (ν 9) el72) (δ (ν 9) (ν 10))) .ok)))))
def ql74 : Tree := (η (μ (γ ο (ν 10)) (μ (γ (ν 10) (ν 9)) (β (.bin .lt (ν 10) (ν 9)) (α (ω (ν 10) (ν 7)) (β (χ (ξ (ν 6) (ν 10) 0) (ξ (ν 6) (ν 9) 0)) (β (.bin .lt el69 (ξ (ν 6) (ν 10) 5)) (β (.bin .lt (ξ (ν 6) (ν 10) 5) (ξ (ν 6) (ν 9) 5)) ql70 ql73) ql73) ql73)) (α (ρ el28) (α (γ ο el28) (α (γ el28 (ν 7)) (α (γ ο (δ (ν 7) el28)) (α (ω (δ (ν 7) el28) (δ (ν 7) (ν 9))) .ok)))))))))
def el75 : E := (π (ν 27) (κ 1))
def ql76 : Tree := (η (μ (.pr 67 [(ν 8), (ν 9), (ν 10), (ν 11), (ν 12), (ν 14), (ν 15), (ν 16), (ν 17), (ν 18), (ν 26)]) (β (χ (ν 26) ο) ql70 (β (χ (χ (ν 13) (ν 19)) ο) ql70 (β (χ (χ (ν 22) (ν 25)) ο) ql70 (β (χ (χ (ν 21) (ν 24)) ο) ql70 (η (μ (γ ο (ν 27)) (μ (γ (ν 27) (ν 21)) (β (.bin .lt (ν 27) (ν 21)) (α (ω (ν 27) (ν 24)) (β (χ (.bin .and (χ (ξ (ν 20) (ν 27) 0) (ξ (ν 23) (ν 27) 0)) (.bin .and (χ (ξ (ν 20) (ν 27) 1) (ξ (ν 23) (ν 27) 1)) (.bin .and (χ (ξ (ν 20) (ν 27) 2) (ξ (ν 23) (ν 27) 2)) (.bin .and (χ (ξ (ν 20) (ν 27) 3) (ξ (ν 23) (ν 27) 3)) (.bin .and (χ (ξ (ν 20) (ν 27) 4) (ξ (ν 23) (ν 27) 4)) (.bin .and (χ (ξ (ν 20) (ν 27) 5) (ξ (ν 23) (ν 27) 5)) (κ 1))))))) ο) ql70 (α (ρ el75) (α (γ ο el75) (α (γ el75 (ν 21)) (α (γ ο (δ (ν 21) el75)) (α (ω (δ (ν 21) el75) (δ (ν 21) (ν 27))) .ok))))))) .ok))))))))))
def tIdx : Tree := (μ (γ ο (ν 1)) (μ (γ (ν 1) (ν 3)) (μ (γ (ν 1) el0) (α (.pr 86 [(ν 0), ο, (ν 2)]) (η (μ pl1 (μ (γ (ν 4) (ν 1)) (μ (.pr 86 [(ν 0), (ν 4), (ν 2)]) (β (.bin .lt (ν 4) (ν 1)) (α (ω (ν 4) (ν 3)) (β (χ (ν 2) el2) (α (γ (κ (-1)) (ν 4)) (α (ω (ν 4) (π (ν 1) (κ 1))) (α (.pr 85 [(ν 0), (ν 1), (ν 2), (ν 4)]) .ok))) (α (ρ el3) (α (γ ο el3) (α (γ el3 (ν 1)) (α (.pr 86 [(ν 0), el3, (ν 2)]) (α (γ ο (δ (ν 1) el3)) (α (ω (δ (ν 1) el3) (δ (ν 1) (ν 4))) .ok)))))))) (α (ω (κ (-1)) (π (ν 1) (κ 1))) (α (.pr 85 [(ν 0), (ν 1), (ν 2), (κ (-1))]) .ok)))))))))))
def tHas : Tree := (μ pl1 (μ pl4 (μ pl5 (μ (ρ (ν 0)) (μ (ρ (ν 1)) (μ (ρ (ν 2)) (α (.pr 51 [(ν 3), ο, (ν 5)]) (η (μ (γ ο (ν 6)) (μ (γ (ν 6) (ν 4)) (μ (.pr 51 [(ν 3), (ν 6), (ν 5)]) (β (.bin .lt (ν 6) (ν 4)) (β (χ (ξ (ν 3) (ν 6) 0) (κ 1)) (β (χ (ξ (ν 3) (ν 6) 1) (ν 5)) (α (.pr 50 [(ν 3), (ν 4), (ν 5), (.bin .le ο (ν 6))]) .ok) ql7) ql7) (α (.pr 50 [(ν 3), (ν 4), (ν 5), ο]) .ok)))))))))))))
def tRenF : Tree := (μ pl1 (μ pl4 (μ pl5 (μ (ρ (ν 0)) (μ (ρ (ν 1)) (μ (ρ (ν 2)) (μ pl8 (μ pl9 (η (η (μ pl10 (μ (γ (ν 7) (κ 500)) (μ pl11 (β el12 (α pl13 ql14) (η (μ pl15 (β el16 (α pl13 ql17) ql23)))))))))))))))))
def tRenN : Tree := (μ pl1 (μ pl4 (μ pl5 (μ (ρ (ν 0)) (μ (ρ (ν 1)) (μ (ρ (ν 2)) (μ pl8 (μ pl9 (μ (γ (ν 4) ο) (α pl13 (η (η (μ pl10 (μ (γ (ν 7) (κ 500)) (μ (.pr 44 [(ν 0), (ν 1), (ν 2), .zt, ο, (ν 7), (ν 8)]) (β el12 ql14 (η (μ pl15 (β el16 ql17 (η (μ (.pr 50 [.zt, ο, (ν 5), (ν 10)]) (β (χ (ν 10) ο) ql18 (η (μ (.pr 50 [.zt, ο, (ν 6), (ν 11)]) (β (ν 11) ql19 (α (.pr 92 [(ν 0), (ν 1), (ν 2), (ν 3), (ν 4), (ν 5), (ν 6), (ν 0), (ν 1), (ν 2), .zt, ο, ο]) .ok))))))))))))))))))))))))))
def tRRen : Tree := (μ pl1 (μ pl4 (μ pl5 (μ (ρ (ν 0)) (μ (ρ (ν 1)) (μ (ρ (ν 2)) (μ pl8 (μ pl9 (η (η (μ pl10 (μ (γ (ν 7) (κ 500)) (μ pl11 (β el12 (α pl13 ql14) (η (μ pl15 (β el16 (α pl13 ql17) (α (γ (ν 4) (ν 4)) (α (γ (ν 4) (κ 1000)) ql23)))))))))))))))))))
def tLvs : Tree := (μ pl1 (μ pl4 (μ pl5 (μ (ρ (ν 0)) (μ (ρ (ν 1)) (μ (ρ (ν 2)) (η (η (μ pl24 (μ (γ (ν 5) (κ 500)) (μ pl25 (β (χ (χ (ν 6) ο) ο) ql26 (α (.pr 88 [(ν 3), (ν 4), ο, .zt, ο, .zt, .zt, ο]) (η (τ (η (τ (τ (η (μ (γ ο (ν 7)) (μ (γ (ν 7) (ν 4)) (μ (γ ο (ν 9)) (μ (γ (ν 9) (ν 7)) (μ pl20 (μ (.pr 88 [(ν 3), (ν 4), (ν 7), (ν 8), (ν 9), (ν 10), (ν 11), (ν 12)]) (β (.bin .lt (ν 7) (ν 4)) (β (χ el27 (κ 3)) (α (γ el28 el0) (α (ρ (ν 9)) (α (γ el31 el0) (α (ρ el31) (α (γ ο el31) (α (γ el31 el31) (α (ρ el32) (α pl33 (α pl34 (α (γ ο el28) (α (γ el28 el32) (α (.pr 88 [(ν 3), (ν 4), el32, (υ (υ (υ (υ (υ (υ (ν 8) (ν 9) 0 el29) (ν 9) 1 (ξ (ν 3) (ν 7) 2)) (ν 9) 2 (ξ (ν 3) (ν 7) 3)) (ν 9) 3 (ξ (ν 3) (ν 7) 4)) (ν 9) 4 (ν 7)) (ν 9) 5 (ν 4)), el28, (.fn 1013 (ν 10) el29 (υ el35 el30 0 (ν 9)) el31), (ν 11), (ν 12)]) ql36)))))))))))) (β (χ el27 (κ 4)) (α (ρ (δ ο (ν 7))) (α (ρ el37) (α (γ el31 el0) (α (ρ el31) (α (γ ο el31) (α (γ el31 el31) (α (ρ el32) (α pl33 (α pl34 (α pl38 (α (γ ο el41) (α (.pr 88 [(ν 3), (ν 4), el32, (ν 8), (ν 9), (.fn 1013 (ν 10) el29 (υ el35 el30 0 el37) el31), (.fn 1009 (ν 11) (ν 12) (υ el39 ο 3 el37) (κ 3)), el41]) ql36)))))))))))) (β (χ el27 (κ 2)) ql45 (β (χ el27 (κ 6)) ql45 (β (χ el27 (κ 5)) (α (γ ο el30) (α (γ el30 el30) (α (γ el30 el0) (η (μ (γ (κ (-1)) (ν 13)) (μ (ω (ν 13) el31) (μ (.pr 85 [el35, el30, (fn2 1000 (.bin .le ο el40) (ξ (ν 11) el40 3)), (ν 13)]) (β (.bin .le ο (ν 13)) (α (ρ el42) (α (γ ο el42) (α (γ el42 el30) (α (γ ο el43) (α (.pr 91 [(ν 3), (ν 4), (ν 7), (ν 8), (ν 9), el42, ο]) (η (τ (μ (γ ο (ν 14)) (μ (γ (ν 14) el43) (μ (.pr 91 [(ν 3), (ν 4), (ν 7), (ν 15), (ν 9), el42, (ν 14)]) (β (.bin .lt (ν 14) el43) (α (γ ο (π el42 (ν 14))) (α (ω (π el42 (ν 14)) el30) (β (.bin .le ο el46) (α (ω el46 (ν 9)) (α (ρ el47) (α (γ ο el47) (α (γ el47 el43) (α (.pr 91 [(ν 3), (ν 4), (ν 7), (υ (ν 15) el46 5 (ν 7)), (ν 9), el42, el47]) ql48))))) (α (ρ el47) (α (γ ο el47) (α (γ el47 el43) (α (.pr 91 [(ν 3), (ν 4), (ν 7), (ν 15), (ν 9), el42, el47]) ql48))))))) (α (ρ el32) (α pl33 (α pl34 (α pl38 (α (.pr 88 [(ν 3), (ν 4), el32, (ν 15), (ν 9), (.fn 1013 (ν 10) el29 el35 el42), (ν 11), (ν 12)]) ql36)))))))))))))))) ql49)))))))) (α (γ ο el30) (α (γ el30 el30) ql49))))))) (α (γ (ν 9) el0) (α (.pr 87 [(ν 0), (ν 1), (ν 2), (ν 3), (ν 4), (ν 8), (ν 9), ο]) .ok))))))))))))))))))))))))))))
def tFnd : Tree := (μ (γ ο (ν 2)) (μ (γ (ν 2) (ν 1)) (μ (γ (ν 2) (κ 1000)) (μ (.pr 45 [(ν 0), (ν 1)]) (α (.pr 53 [(ν 0), ο, (ν 3), (ν 4), (ν 5)]) (η (μ (γ ο (ν 6)) (μ (γ (ν 6) (ν 2)) (μ (.pr 53 [(ν 0), (ν 6), (ν 3), (ν 4), (ν 5)]) (β (.bin .lt (ν 6) (ν 2)) (α (ω (ν 6) (ν 1)) (β (χ (ξ (ν 0) (ν 6) 0) (ν 3)) (β (χ (ξ (ν 0) (ν 6) 1) (ν 4)) (β (χ (ξ (ν 0) (ν 6) 2) (ν 5)) (α (γ (κ (-1)) (ν 6)) (α (ω (ν 6) (π (ν 2) (κ 1))) (α (.pr 95 [(ν 0), (ν 2), (ν 3), (ν 4), (ν 5), (ν 6)]) .ok))) ql50) ql50) ql50)) (α (ω (κ (-1)) (π (ν 2) (κ 1))) (α (.pr 95 [(ν 0), (ν 2), (ν 3), (ν 4), (ν 5), (κ (-1))]) .ok))))))))))))
def tGone : Tree := (μ pl1 (μ (ω (ν 4) (ν 1)) (μ (γ (ν 1) (κ 1000)) (μ (.pr 45 [(ν 0), (ν 1)]) (μ (γ ο (ν 3)) (μ (γ (ν 3) (κ 1000)) (μ (.pr 93 [(ν 2), (ν 3), (ν 1)]) (α (γ (ν 3) (κ 70000)) (β (χ el2 (κ 2)) ql61 (β (χ el2 (κ 6)) ql61 (β (χ el2 (κ 5)) (α (γ ο (ν 1)) (α (γ (ν 1) (ν 1)) (η (μ pl24 (μ (ω (ν 5) (π (ν 1) (κ 1))) (μ pl51 (α (.pr 96 [(ν 2), ο, (ν 5), (ν 1), (ν 1)]) ql56))))))) (α (.pr 98 [(ν 0), (ν 1), (ν 2), (ν 3), (ν 4), (ν 1)]) (α (.pr 97 [(ν 0), (ν 2), (ν 4), (ν 1), ο, .zt]) ql60)))))))))))))
def tRLvs : Tree := (μ pl1 (μ pl4 (μ pl5 (μ (ρ (ν 0)) (μ (ρ (ν 1)) (μ (ρ (ν 2)) (η (η (μ pl24 (μ (γ (ν 5) (κ 500)) (μ pl25 (β (χ (χ (ν 6) ο) ο) ql26 (α (γ (ν 4) (κ 70000)) (α (.pr 99 [(ν 3), (ν 4), ο, .zt, .zt, ο]) (η (τ (τ (η (μ (γ ο (ν 7)) (μ (γ (ν 7) (ν 4)) (μ (γ ο (ν 10)) (μ (γ (ν 10) (ν 7)) (μ (.pr 99 [(ν 3), (ν 4), (ν 7), (ν 8), (ν 9), (ν 10)]) (β (.bin .lt (ν 7) (ν 4)) (α (γ (ν 4) (κ 1000)) (α (γ (ν 10) (κ 1000)) (α (.pr 93 [(ν 9), (ν 10), (ν 4)]) (τ (μ (.pr 94 [(ν 3), (ν 4), (ν 9), (ν 10), (ν 7), (ν 11)]) (α (.pr 100 [(ν 3), (ν 4), (ν 7), (υ (ν 8) (ν 7) 0 (ν 4)), (ν 9), (ν 10), (ν 11), ο, .zt, ο]) (η (τ (τ (η (μ pl20 (μ (γ (ν 12) (ν 10)) (μ (γ ο (ν 15)) (μ (γ (ν 15) (ν 12)) (μ (.pr 100 [(ν 3), (ν 4), (ν 7), (ν 13), (ν 9), (ν 10), (ν 11), (ν 12), (ν 14), (ν 15)]) (β (.bin .lt (ν 12) (ν 10)) (β (ξ (ν 11) (ν 12) 0) (α (γ ο el62) (α (ω el62 (ν 4)) (α (ρ el21) (α (γ ο el21) (α (γ el21 (ν 10)) (α (γ (ν 15) el21) (α (.pr 100 [(ν 3), (ν 4), (ν 7), (υ (ν 13) el62 0 (ν 7)), (ν 9), (ν 10), (ν 11), el21, (ν 14), (ν 15)]) ql63))))))) (α (γ el64 el0) (α (ρ el21) (α (γ ο el21) (α (γ el21 (ν 10)) (α (γ ο el64) (α (γ el64 el21) (α (.pr 100 [(ν 3), (ν 4), (ν 7), (ν 13), (ν 9), (ν 10), (ν 11), el21, (υ (ν 14) (ν 15) 0 el62), el64]) ql63)))))))) (β (χ el27 (κ 3)) ql65 (β (χ el27 (κ 4)) ql65 (α (ρ el32) (α pl33 (α pl34 (α (γ (ν 15) el32) (α (.pr 99 [(ν 3), (ν 4), el32, (ν 13), (ν 14), (ν 15)]) ql36))))))))))))))))))))))) (α (.pr 101 [(ν 3), (ν 4), ο, (ν 8), .zt, ο]) (η (τ (η (μ (γ ο (ν 11)) (μ (γ (ν 11) (ν 4)) (μ (γ ο (ν 13)) (μ (γ (ν 13) (ν 11)) (μ (.pr 101 [(ν 3), (ν 4), (ν 11), (ν 8), (ν 12), (ν 13)]) (β (.bin .lt (ν 11) (ν 4)) (β (χ (ξ (ν 3) (ν 11) 0) (κ 3)) (α (γ el42 el0) (α (ρ el66) (α (γ ο el66) (α (γ el66 (ν 4)) (α (γ ο el42) (α (γ el42 el66) (α (.pr 101 [(ν 3), (ν 4), el66, (ν 8), (υ (υ (υ (υ (υ (υ (ν 12) (ν 13) 0 (ξ (ν 3) (ν 11) 1)) (ν 13) 1 (ξ (ν 3) (ν 11) 2)) (ν 13) 2 (ξ (ν 3) (ν 11) 3)) (ν 13) 3 (ξ (ν 3) (ν 11) 4)) (ν 13) 4 (ν 11)) (ν 13) 5 (ξ (ν 8) (ν 11) 0)), el42]) ql67))))))) (α (ρ el66) (α (γ ο el66) (α (γ el66 (ν 4)) (α (γ (ν 13) el66) (α (.pr 101 [(ν 3), (ν 4), el66, (ν 8), (ν 12), (ν 13)]) ql67)))))) (α (γ (ν 13) el0) (α (.pr 87 [(ν 0), (ν 1), (ν 2), (ν 3), (ν 4), (ν 12), (ν 13), ο]) .ok))))))))))))))))))))))))))))))))))))
def tNes : Tree := (μ pl1 (μ (ρ (ν 4)) (μ pl68 (μ (ρ (ν 0)) (μ (ρ (ν 1)) (μ (ρ (ν 2)) (η (μ (.pr 69 [(ν 3), (ν 4), (ν 5)]) (β (ν 5) .ok (β (.bin .lt (κ 60) (ν 4)) .ok (α pl4 (α pl5 (τ (η (η (μ (γ ο (ν 7)) (μ (γ (ν 7) el0) (μ (.pr 87 [(ν 0), (ν 1), (ν 2), (ν 3), (ν 4), (ν 6), (ν 7), (ν 8)]) (β el12 .ok (η (μ (γ ο (ν 9)) (μ (γ (ν 9) (ν 7)) (β (.bin .lt (ν 9) (ν 7)) (β (.bin .lt el69 ο) ql70 (β (.bin .le (ξ (ν 6) (ν 9) 5) el69) ql70 (β (.bin .lt (ν 4) (ξ (ν 6) (ν 9) 5)) ql70 (α (ω el69 (ν 4)) (β (χ (χ (ξ (ν 3) el69 0) (κ 3)) ο) ql70 (β (.bin .ne (ξ (ν 3) el69 2) (ξ (ν 6) (ν 9) 1)) ql70 (β (.bin .lt ο (ν 9)) (α (ρ el71) (α (γ ο el71) (α (ω el71 (ν 7)) (β (.bin .le el69 (ξ (ν 6) el71 4)) ql70 ql74)))) ql74))))))) .ok)))))))))))))))))))))))
def tLivF : Tree := (μ pl1 (μ (ρ (ν 4)) (μ pl68 (μ (ρ (ν 0)) (μ (ρ (ν 1)) (μ (ρ (ν 2)) (η (μ (.pr 69 [(ν 3), (ν 4), (ν 7)]) (β (ν 7) .ok (β (.bin .lt (κ 100) (sln (ν 5))) .ok (β (.bin .lt (κ 100) (sln (ν 6))) .ok (α pl4 (α pl5 (α pl8 (α pl9 (η (η (η (τ (η (η (μ (ρ (ν 8)) (μ (ρ (ν 9)) (μ (ρ (ν 10)) (μ pl20 (μ (γ (ν 12) el0) (μ (.pr 45 [(ν 11), (ν 12)]) (μ (.pr 92 [(ν 0), (ν 1), (ν 2), (ν 3), (ν 4), (ν 5), (ν 6), (ν 8), (ν 9), (ν 10), (ν 11), (ν 12), (ν 13)]) (η (η (η (τ (η (η (μ (ρ (ν 14)) (μ (ρ (ν 15)) (μ (ρ (ν 16)) (μ (γ ο (ν 18)) (μ (γ (ν 18) el0) (μ (.pr 45 [(ν 17), (ν 18)]) (μ (.pr 92 [(ν 0), (ν 1), (ν 2), (ν 3), (ν 4), (ν 5), (ν 6), (ν 14), (ν 15), (ν 16), (ν 17), (ν 18), (ν 19)]) (τ (η (η (μ (γ ο (ν 21)) (μ (γ (ν 21) el0) (μ (.pr 87 [(ν 0), (ν 1), (ν 2), (ν 3), (ν 4), (ν 20), (ν 21), (ν 22)]) (τ (η (η (μ (γ ο (ν 24)) (μ (γ (ν 24) el0) (μ (.pr 87 [(ν 0), (ν 1), (ν 2), (ν 3), (ν 4), (ν 23), (ν 24), (ν 25)]) ql76)))))))))))))))))))))))))))))))))))))))))))))))))))))
def tLivN : Tree := (μ pl1 (μ (ρ (ν 4)) (μ pl68 (μ (ρ (ν 0)) (μ (ρ (ν 1)) (μ (ρ (ν 2)) (μ (γ (ν 4) ο) (η (μ (.pr 69 [.zt, ο, (ν 7)]) (β (ν 7) .ok (β (.bin .lt (κ 100) (sln (ν 5))) .ok (β (.bin .lt (κ 100) (sln (ν 6))) .ok (α pl13 (α pl8 (α pl9 (η (η (η (τ (η (η (μ (ρ (ν 8)) (μ (ρ (ν 9)) (μ (ρ (ν 10)) (μ pl20 (μ (γ (ν 12) el0) (μ (.pr 45 [(ν 11), (ν 12)]) (μ (.pr 92 [(ν 0), (ν 1), (ν 2), .zt, ο, (ν 5), (ν 6), (ν 8), (ν 9), (ν 10), (ν 11), (ν 12), (ν 13)]) (η (η (η (τ (η (η (μ (ρ (ν 14)) (μ (ρ (ν 15)) (μ (ρ (ν 16)) (μ (γ ο (ν 18)) (μ (γ (ν 18) el0) (μ (.pr 45 [(ν 17), (ν 18)]) (μ (.pr 92 [(ν 0), (ν 1), (ν 2), .zt, ο, (ν 5), (ν 6), (ν 14), (ν 15), (ν 16), (ν 17), (ν 18), (ν 19)]) (τ (η (η (μ (γ ο (ν 21)) (μ (γ (ν 21) el0) (μ (.pr 87 [(ν 0), (ν 1), (ν 2), .zt, ο, (ν 20), (ν 21), (ν 22)]) (τ (η (η (μ (γ ο (ν 24)) (μ (γ (ν 24) el0) (μ (.pr 87 [(ν 0), (ν 1), (ν 2), .zt, ο, (ν 23), (ν 24), (ν 25)]) ql76)))))))))))))))))))))))))))))))))))))))))))))))))))))
end Go.Tt
