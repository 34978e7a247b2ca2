/-
  What the laws of account say of the plain functions. Plain Lean. Conditions: none.
-/
import Derived.Test.YtafipmoglaepcaaAcWf2
namespace Go.Proofs.Ytafipmoglaepcaa.Ac
open Go.Sx (tupd)

theorem svT_at {T : Tb} {n r : Int} {c : Nat} (h0 : 0 ≤ r) (h1 : r < n) (hc : c < 5) : svT T n r c = T r c := by unfold svT; rw [if_pos ⟨h0, h1, hc⟩]
theorem EqTo.refl (A : Tb) (k : Int) : EqTo A A k := fun _ _ _ => ⟨rfl, rfl, rfl, rfl, Iff.rfl⟩
theorem EqRow.of {A B : Tb} {r : Int} (h : ∀ c, c < 5 → A r c = B r c) : EqRow A B r := ⟨h 0 (by omega), h 1 (by omega), h 2 (by omega), h 3 (by omega), by rw [h 4 (by omega)]⟩
theorem ButTo.svT {A B : Tb} {n : Int} (h : ∀ r, B r 3 ≤ A r 3 ∧ A r 0 = B r 0 ∧ A r 1 = B r 1 ∧ A r 2 = B r 2 ∧ A r 4 = B r 4) : ButTo (svT A n) (svT B n) n := fun r h0 h1 => by
  obtain ⟨a, b, c, d, e⟩ := h r
  unfold ButRow
  rw [svT_at h0 h1 (by omega), svT_at h0 h1 (by omega), svT_at h0 h1 (by omega), svT_at h0 h1 (by omega), svT_at h0 h1 (by omega), svT_at h0 h1 (by omega), svT_at h0 h1 (by omega), svT_at h0 h1 (by omega), svT_at h0 h1 (by omega), svT_at h0 h1 (by omega)]
  exact ⟨a, b, c, d, by rw [e]⟩

/-! ### Sums -/

theorem sumK_one (T : Tb) (n i : Int) : sumK T n i 1 = T i 2 := by
  simp [sumK, sumN]
theorem sumK_step {T : Tb} {n i k : Int} (h : 0 ≤ k) : sumK T n i (k + 1) = sumK T n i k + (if Opn T n k ∧ 0 < k ∧ T k 0 = i then T k 5 else 0) := by
  unfold sumK
  rw [show (k + 1).toNat = k.toNat + 1 by omega]
  simp only [sumN]
  rw [show ((k.toNat : Nat) : Int) = k by omega]; omega
theorem sumK_all {T : Tb} {n i : Int} (w : Wf T n) (hi : Opn T n i) : sumK T n i n = T i 5 := by
  have hs := w.sums i hi
  have : sumN (fun j => if Opn T n j ∧ 0 < (j : Int) ∧ T j 0 = i then T j 5 else 0) n.toNat = kids T n i := by
    unfold kids
    refine sumN_congr fun j _ => ?_
    by_cases hc : Opn T n j ∧ T j 0 = i
    · have hj : 0 < (j : Int) := by
        by_cases e : (j : Int) = 0
        · have h2 := hc.2
          rw [e, w.rootp] at h2; have := hi.1; omega
        · omega
      rw [if_pos hc, if_pos ⟨hc.1, hj, hc.2⟩]
    · rw [if_neg hc, if_neg (fun x => hc ⟨x.1, x.2.2⟩)]
  unfold sumK
  unfold df at hs
  omega
theorem sumK_le {T : Tb} {n i : Int} (w : Wf T n) (hi : Opn T n i) : ∀ (m : Nat) (k : Int), 0 ≤ k → 0 ≤ sumK T n i k ∧ sumK T n i k ≤ sumK T n i (k + m)
  | 0, k, h => by
    refine ⟨?_, by simp⟩
    unfold sumK
    have h1 := sumN_nonneg (f := fun j : Nat => if Opn T n j ∧ 0 < (j : Int) ∧ T j 0 = i then T j 5 else 0) (m := k.toNat) fun j _ => by
      by_cases hc : Opn T n j ∧ 0 < (j : Int) ∧ T j 0 = i
      · rw [if_pos hc]; exact (w.rng _ hc.1).2.2.2.1
      · rw [if_neg hc]; omega
    have := (w.rng i hi).2.2.1
    omega
  | m + 1, k, h => by
    obtain ⟨h1, h2⟩ := sumK_le w hi m k h
    have hs := sumK_step (T := T) (n := n) (i := i) (k := k + m) (by omega)
    rw [show k + ((m + 1 : Nat) : Int) = k + m + 1 by omega]
    refine ⟨h1, ?_⟩
    by_cases hc : Opn T n (k + m) ∧ 0 < k + m ∧ T (k + m) 0 = i
    · rw [if_pos hc] at hs; have := (w.rng _ hc.1).2.2.2.1; omega
    · rw [if_neg hc] at hs; omega

theorem ovL_step (T : Tb) (n : Int) (k : Nat) : ovL T n (k + 1) = if Opn T n k ∧ room T k < 0 then ovL T n k ++ [(k : Int)] else ovL T n k := rfl
theorem ovL_from {T : Tb} {n : Int} (k : Nat) : ∀ m : Nat, ∃ l, ovL T n (k + m) = ovL T n k ++ l ∧ ∀ x ∈ l, (k : Int) ≤ x
  | 0 => ⟨[], by simp, fun x h => by cases h⟩
  | m + 1 => by
    obtain ⟨l, h1, h2⟩ := ovL_from (T := T) (n := n) k m
    rw [← Nat.add_assoc, ovL_step, h1]
    split
    · exact ⟨l ++ [((k + m : Nat) : Int)], by simp, fun x hx => by
        rcases List.mem_append.1 hx with h | h
        · exact h2 x h
        · simp at h; omega⟩
    · exact ⟨l, rfl, h2⟩
theorem ovL_mem {T : Tb} {n x : Int} : ∀ {k : Nat}, x ∈ ovL T n k ↔ 0 ≤ x ∧ x < k ∧ Opn T n x ∧ room T x < 0
  | 0 => by simp [ovL]; omega
  | k + 1 => by
    rw [ovL_step]
    have ih := ovL_mem (T := T) (n := n) (x := x) (k := k)
    by_cases hc : Opn T n k ∧ room T k < 0
    · rw [if_pos hc, List.mem_append, ih]
      constructor
      · rintro (⟨a, b, c⟩ | h)
        · exact ⟨a, by omega, c⟩
        · simp at h; subst h; exact ⟨by omega, by omega, hc⟩
      · rintro ⟨a, b, c⟩
        by_cases e : x = k
        · right; simp [e]
        · left; exact ⟨a, by omega, c⟩
    · rw [if_neg hc, ih]
      constructor
      · rintro ⟨a, b, c⟩; exact ⟨a, by omega, c⟩
      · rintro ⟨a, b, c⟩
        by_cases e : x = k
        · subst e; exact (hc c).elim
        · exact ⟨a, by omega, c⟩
theorem lstT_get {l : List Int} {k : Nat} (h : k < l.length) : lstT l k 0 = l[k] := by
  rw [lstT, if_pos ⟨by omega, rfl⟩, List.getD_eq_getElem?_getD, Int.toNat_natCast, List.getElem?_eq_getElem h]; rfl
/-- The next of Over is k, if k exceeds its limit; else it is none, or another one. -/
theorem ovL_next {T : Tb} {n k : Int} (h0 : 0 ≤ k) (h1 : k < n) :
    ((ovL T n k.toNat).length : Int) ≤ (ovL T n n.toNat).length ∧
    (Opn T n k → room T k < 0 → ((ovL T n k.toNat).length : Int) < (ovL T n n.toNat).length ∧ lstT (ovL T n n.toNat) (ovL T n k.toNat).length 0 = k) ∧
    (¬ (Opn T n k ∧ room T k < 0) → ((ovL T n k.toNat).length : Int) < (ovL T n n.toNat).length → lstT (ovL T n n.toNat) (ovL T n k.toNat).length 0 ≠ k) := by
  obtain ⟨l, hl, hx⟩ := ovL_from (T := T) (n := n) (k.toNat + 1) (n - (k + 1)).toNat
  rw [show k.toNat + 1 + (n - (k + 1)).toNat = n.toNat by omega, ovL_step, show ((k.toNat : Nat) : Int) = k by omega] at hl
  have hlen := congrArg List.length hl
  by_cases hc : Opn T n k ∧ room T k < 0
  · rw [if_pos hc] at hl hlen
    simp only [List.length_append, List.length_cons, List.length_nil] at hlen
    refine ⟨by omega, fun _ _ => ⟨by omega, ?_⟩, fun h => (h hc).elim⟩
    rw [lstT_get (by omega)]
    simp [hl]
  · rw [if_neg hc] at hl hlen
    simp only [List.length_append] at hlen
    refine ⟨by omega, fun a b => (hc ⟨a, b⟩).elim, fun _ hlt => ?_⟩
    rw [lstT_get (by omega)]
    simp only [hl]
    rw [List.getElem_append_right (Nat.le_refl _)]
    simp only [Nat.sub_self]
    have hm : l[0]'(by omega) ∈ l := List.getElem_mem _
    have := hx _ hm
    omega

/-! ### Errors change nothing -/

theorem doE_keeps {T : Tb} {n k a b : Int} (h : doE T n k a b ≠ 0) : doT T n k a b = T ∧ doN T n k a b = n := by
  unfold doE at h
  unfold doT doN
  by_cases h0 : k % 8 = 0
  · rw [if_pos h0] at h; rw [if_pos h0, if_pos h0, cdT, if_neg h, cdN, if_neg (fun x => h x.1)]; exact ⟨rfl, rfl⟩
  rw [if_neg h0] at h; rw [if_neg h0, if_neg h0]
  by_cases h1 : k % 8 = 1
  · rw [if_pos h1] at h; rw [if_pos h1, if_pos h1, clT, if_neg h, clN, if_neg h]; exact ⟨rfl, rfl⟩
  rw [if_neg h1] at h; rw [if_neg h1, if_neg h1]
  by_cases h2 : k % 8 = 5
  · rw [if_pos h2] at h; rw [if_pos h2, giT, if_neg h]; exact ⟨rfl, rfl⟩
  rw [if_neg h2] at h; rw [if_neg h2]
  by_cases h3 : k % 8 = 6
  · rw [if_pos h3] at h; rw [if_pos h3, slT, if_neg h]; exact ⟨rfl, rfl⟩
  rw [if_neg h3] at h; rw [if_neg h3]
  by_cases h4 : k % 8 = 7
  · rw [if_pos h4] at h; rw [if_pos h4, mvT, if_neg h]; exact ⟨rfl, rfl⟩
  rw [if_neg h4] at h; rw [if_neg h4, chT, if_neg h]; exact ⟨rfl, rfl⟩

/-! ### What a call does to a node: what it has, its limit, its peak -/

/-- A node behind a call: the new one, or one that was there, of which it says what it has, its limit, its peak. -/
structure NodeStep (T T' : Tb) (n : Int) (x : Int) : Prop where
  opn : Opn T n x
  lim : T' x 1 = T x 1
  all : T' x 5 ≤ T x 5 ∨ T' x 5 ≤ T' x 1
  peak : T' x 3 = max (T x 3) (T' x 5)

theorem chT_node {T : Tb} {n i d x : Int} (w : Wf T n) (hx : Opn (chT T n i d) n x) : NodeStep T (chT T n i d) n x := by
  unfold chT at hx ⊢
  by_cases h : chE T n i d = 0
  · rw [if_pos h] at hx ⊢
    obtain ⟨h1, h2, h3, h4⟩ := chE_ok h
    have hs1 : Shape (tupd T i 2 (T i 2 + d)) T := tupd_shape (by omega) (by omega)
    have hp : path (tupd T i 2 (T i 2 + d)) n i = path T n i := hs1.path w.toWt i
    have ho : Opn T n x := ((addP_shape _ _ _ _).trans hs1).opn.1 hx
    have hr := w.rng x ho
    have z1 : tupd T i 2 (T i 2 + d) x 1 = T x 1 := tupd_ne (by omega)
    have z3 : tupd T i 2 (T i 2 + d) x 3 = T x 3 := tupd_ne (by omega)
    have z5 : tupd T i 2 (T i 2 + d) x 5 = T x 5 := tupd_ne (by omega)
    have e1 := addP_1 (tupd T i 2 (T i 2 + d)) n i d x
    have e3 := addP_3 (tupd T i 2 (T i 2 + d)) n i d x
    have e5 := addP_5 (tupd T i 2 (T i 2 + d)) n i d x
    rw [hp] at e3 e5
    rw [z1] at e1
    rw [z3, z5] at e3
    rw [z5] at e5
    refine ⟨ho, e1, ?_, ?_⟩
    · rw [e1, e5]
      by_cases hm : x ∈ path T n i
      · rw [if_pos hm]
        by_cases hd : d = 0
        · left; omega
        · right; have := head_fits w.toWt h1 h4 (by omega) x hm; omega
      · rw [if_neg hm]; left; omega
    · rw [e3, e5]
      by_cases hm : x ∈ path T n i
      · rw [if_pos hm, if_pos hm]
      · rw [if_neg hm, if_neg hm]; omega
  · rw [if_neg h] at hx ⊢
    have hr := w.rng x hx
    exact ⟨hx, rfl, .inl (Int.le_refl _), by omega⟩
theorem giT_node {T : Tb} {n i d x : Int} (w : Wf T n) (hx : Opn (giT T n i d) n x) : NodeStep T (giT T n i d) n x := by
  unfold giT at hx ⊢
  by_cases h : giE T n i d = 0
  · rw [if_pos h] at hx ⊢
    obtain ⟨h1, h2, h3, h4⟩ := giE_ok h
    have hs1 : Shape (tupd T i 2 (T i 2 - d)) T := tupd_shape (by omega) (by omega)
    have hp : path (tupd T i 2 (T i 2 - d)) n i = path T n i := hs1.path w.toWt i
    have ho : Opn T n x := ((addP_shape _ _ _ _).trans hs1).opn.1 hx
    have hr := w.rng x ho
    have z1 : tupd T i 2 (T i 2 - d) x 1 = T x 1 := tupd_ne (by omega)
    have z3 : tupd T i 2 (T i 2 - d) x 3 = T x 3 := tupd_ne (by omega)
    have z5 : tupd T i 2 (T i 2 - d) x 5 = T x 5 := tupd_ne (by omega)
    have e1 := addP_1 (tupd T i 2 (T i 2 - d)) n i (0 - d) x
    have e3 := addP_3 (tupd T i 2 (T i 2 - d)) n i (0 - d) x
    have e5 := addP_5 (tupd T i 2 (T i 2 - d)) n i (0 - d) x
    rw [hp] at e3 e5
    rw [z1] at e1
    rw [z3, z5] at e3
    rw [z5] at e5
    refine ⟨ho, e1, ?_, ?_⟩
    · rw [e5]; left; split <;> omega
    · rw [e3, e5]
      by_cases hm : x ∈ path T n i
      · rw [if_pos hm, if_pos hm]
      · rw [if_neg hm, if_neg hm]; omega
  · rw [if_neg h] at hx ⊢
    have hr := w.rng x hx
    exact ⟨hx, rfl, .inl (Int.le_refl _), by omega⟩
theorem mvT_node {T : Tb} {n x p y : Int} (w : Wf T n) (hy : Opn (mvT T n x p) n y) : NodeStep T (mvT T n x p) n y := by
  unfold mvT at hy ⊢
  by_cases h : mvE T n x p = 0
  · rw [if_pos h] at hy ⊢
    obtain ⟨hx, hp, h0, hn, hfull⟩ := mvE_ok h
    generalize hS : tupd (subP T n (T x 0) (T x 5)) x 0 p = S at *
    obtain ⟨wS, hpath, hs, h5, hoff⟩ := mvT_parts w h hS
    have ho : Opn T n y := by
      have := (addP_shape S n p (T x 5)).opn.1 hy
      unfold Opn at this ⊢
      rw [(hs y).1] at this; exact this
    have hr := w.rng y ho
    have e1 := addP_1 S n p (T x 5) y
    have e3 := addP_3 S n p (T x 5) y
    have e5 := addP_5 S n p (T x 5) y
    rw [hpath, hoff y 3 (by omega) (by omega)] at e3
    rw [hpath, h5] at e5
    rw [h5] at e3
    rw [hoff y 1 (by omega) (by omega)] at e1
    have ha := (w.rng x hx).2.2.2.1
    refine ⟨ho, e1, ?_, ?_⟩
    · rw [e1, e5]
      by_cases m2 : y ∈ path T n p
      · by_cases m1 : y ∈ path T n (T x 0)
        · rw [if_pos m1, if_pos m2]; left; omega
        · rw [if_neg m1, if_pos m2]
          by_cases z : T x 5 > 0
          · right
            by_cases q : T x 5 > room T y
            · exact (hfull ⟨y, m2, z, q, m1⟩).elim
            · unfold room at q; omega
          · left; omega
      · rw [if_neg m2]; left; split <;> omega
    · rw [e3, e5]
      by_cases m2 : y ∈ path T n p
      · rw [if_pos m2, if_pos m2]
      · rw [if_neg m2, if_neg m2]; split <;> omega
  · rw [if_neg h] at hy ⊢
    have hr := w.rng y hy
    exact ⟨hy, rfl, .inl (Int.le_refl _), by omega⟩
theorem clT_node {T : Tb} {n i x : Int} (w : Wf T n) (hx : Opn (clT T n i) (clN T n i) x) : NodeStep T (clT T n i) n x := by
  unfold clT clN at hx
  unfold clT
  by_cases h : clE T n i = 0
  · rw [if_pos h, if_pos h] at hx
    rw [if_pos h]
    have hn := w.n1
    have ho := (trim_opn (by omega)).1 hx
    obtain ⟨e0, e1, e2, e3, e4, e5⟩ := row6_on T i (-1) 0 0 0 1 0
    have hne : x ≠ i := fun e => by have := ho.2.2; rw [e, e4] at this; omega
    have ho2 : Opn T n x := ⟨ho.1, ho.2.1, by have := ho.2.2; rw [row6_off hne] at this; exact this⟩
    have hr := w.rng x ho2
    exact ⟨ho2, row6_off hne 1, .inl (by rw [row6_off hne]; exact Int.le_refl _), by rw [row6_off hne, row6_off hne]; omega⟩
  · rw [if_neg h, if_neg h] at hx
    rw [if_neg h]
    have hr := w.rng x hx
    exact ⟨hx, rfl, .inl (Int.le_refl _), by omega⟩
/-- Behind Child: the new node, or one that was there. -/
theorem cdT_node {T : Tb} {n p l x : Int} (hx : Opn (cdT T n p l) (cdN T n p l) x) :
    (cdE T n p l = 0 ∧ x = cdR T n p l ∧ 0 ≤ l ∧ cdT T n p l x 1 = l ∧ cdT T n p l x 3 = 0 ∧ cdT T n p l x 5 = 0) ∨ ((cdE T n p l = 0 → x ≠ cdR T n p l) ∧ Opn T n x ∧ ∀ c, cdT T n p l x c = T x c) := by
  by_cases h : cdE T n p l = 0
  · obtain ⟨h1, h2, h3, h4⟩ := cdE_ok h
    have eR : cdR T n p l = fcN T n := by rw [cdR, if_pos h]
    have eT : cdT T n p l = row6 T (fcN T n) p l 0 0 0 0 := by rw [cdT, if_pos h]
    obtain ⟨e0, e1, e2, e3, e4, e5⟩ := row6_on T (fcN T n) p l 0 0 0 0
    by_cases e : x = fcN T n
    · left
      rw [eT, e]
      exact ⟨h, eR.symm, h2, e1, e3, e5⟩
    · right
      rw [eT] at hx ⊢
      refine ⟨fun _ => by rw [eR]; exact e, ?_, fun c => row6_off e c⟩
      have := hx.2.2
      rw [row6_off e] at this
      refine ⟨hx.1, ?_, this⟩
      have hlt := hx.2.1
      unfold cdN at hlt
      split at hlt
      · rename_i hc
        have : fcN T n = n := by unfold fcN; rw [if_pos hc.2]
        omega
      · exact hlt
  · right
    rw [cdT, if_neg h, cdN, if_neg (fun x => h x.1)] at hx
    rw [cdT, if_neg h]
    exact ⟨fun y => (h y).elim, hx, fun _ => rfl⟩
theorem cdR_rng {T : Tb} {n p l : Int} (w : Wf T n) (h : cdE T n p l = 0) : 0 ≤ cdR T n p l ∧ cdR T n p l < 64 := by
  obtain ⟨h1, h2, h3, h4⟩ := cdE_ok h
  have hn := w.n1
  have hn2 := w.n64
  rw [cdR, if_pos h]
  unfold fcN
  rcases fc_spec (T := T) (n := n) with ⟨a, _⟩ | ⟨a, b, _⟩
  · rw [if_pos a]; have : n ≠ 64 := fun e => h4 ⟨a, e⟩; omega
  · rw [if_neg (by omega)]; omega
theorem slT_node {T : Tb} {n i d x : Int} (hx : Opn (slT T n i d) n x) : Opn T n x ∧ slT T n i d x 3 = T x 3 ∧ slT T n i d x 5 = T x 5 := by
  unfold slT at hx ⊢
  by_cases h : slE T n i d = 0
  · rw [if_pos h] at hx ⊢
    have hs : Shape (tupd T i 1 d) T := tupd_shape (by omega) (by omega)
    exact ⟨hs.opn.1 hx, tupd_ne (by omega), tupd_ne (by omega)⟩
  · rw [if_neg h] at hx ⊢
    exact ⟨hx, rfl, rfl⟩

/-- No call but SetLimit lets a node exceed its limit that did not. -/
theorem do_over {T : Tb} {n k a b x : Int} (w : Wf T n) (hk : k % 8 ≠ 6) (hx : Opn (doT T n k a b) (doN T n k a b) x) (hr : room (doT T n k a b) x < 0) : Opn T n x ∧ room T x < 0 := by
  have step : ∀ {T'}, NodeStep T T' n x → room T' x < 0 → Opn T n x ∧ room T x < 0 := fun h hr => by
    unfold room at hr ⊢
    rw [h.lim] at hr
    refine ⟨h.opn, ?_⟩
    rcases h.all with q | q
    · omega
    · rw [h.lim] at q; omega
  unfold doT doN at hx
  unfold doT at hr
  by_cases h0 : k % 8 = 0
  · rw [if_pos h0, if_pos h0] at hx; rw [if_pos h0] at hr
    rcases cdT_node hx with ⟨_, _, hl, e1, _, e5⟩ | ⟨_, ho, e⟩
    · unfold room at hr; rw [e1, e5] at hr; omega
    · unfold room at hr; rw [e, e] at hr; exact ⟨ho, hr⟩
  rw [if_neg h0, if_neg h0] at hx; rw [if_neg h0] at hr
  by_cases h1 : k % 8 = 1
  · rw [if_pos h1, if_pos h1] at hx; rw [if_pos h1] at hr
    exact step (clT_node w hx) hr
  rw [if_neg h1, if_neg h1] at hx; rw [if_neg h1] at hr
  by_cases h2 : k % 8 = 5
  · rw [if_pos h2] at hx hr; exact step (giT_node w hx) hr
  rw [if_neg h2, if_neg hk] at hx hr
  by_cases h4 : k % 8 = 7
  · rw [if_pos h4] at hx hr; exact step (mvT_node w hx) hr
  rw [if_neg h4] at hx hr
  exact step (chT_node w hx) hr

/-- Peaks behind a call, out of those before it. -/
theorem do_peaks {T : Tb} {n k a b x : Int} (w : Wf T n) (hx : Opn (doT T n k a b) (doN T n k a b) x) :
    (k % 8 = 0 ∧ doE T n k a b = 0 ∧ x = doR T n k a b ∧ max 0 (doT T n k a b x 5) = doT T n k a b x 3) ∨
    ((k % 8 = 0 → doE T n k a b = 0 → x ≠ doR T n k a b) ∧ Opn T n x ∧ max (T x 3) (doT T n k a b x 5) = doT T n k a b x 3) := by
  unfold doT doN at hx
  unfold doT doE doR
  by_cases h0 : k % 8 = 0
  · rw [if_pos h0, if_pos h0] at hx; rw [if_pos h0, if_pos h0, if_pos h0]
    rcases cdT_node hx with ⟨hE, eR, _, _, e3, e5⟩ | ⟨hne, ho, e⟩
    · left; rw [e3, e5]; exact ⟨h0, hE, eR, by omega⟩
    · right; rw [e, e]; have := w.rng x ho; exact ⟨fun _ => hne, ho, by omega⟩
  right
  refine ⟨fun y => (h0 y).elim, ?_⟩
  rw [if_neg h0, if_neg h0] at hx; rw [if_neg h0]
  by_cases h1 : k % 8 = 1
  · rw [if_pos h1, if_pos h1] at hx; rw [if_pos h1]
    have := clT_node w hx
    exact ⟨this.opn, this.peak.symm⟩
  rw [if_neg h1, if_neg h1] at hx; rw [if_neg h1]
  by_cases h2 : k % 8 = 5
  · rw [if_pos h2] at hx ⊢; have := giT_node w hx; exact ⟨this.opn, this.peak.symm⟩
  rw [if_neg h2] at hx ⊢
  by_cases h3 : k % 8 = 6
  · rw [if_pos h3] at hx ⊢
    obtain ⟨ho, e3, e5⟩ := slT_node hx
    rw [e3, e5]; have := w.rng x ho; exact ⟨ho, by omega⟩
  rw [if_neg h3] at hx ⊢
  by_cases h4 : k % 8 = 7
  · rw [if_pos h4] at hx ⊢; have := mvT_node w hx; exact ⟨this.opn, this.peak.symm⟩
  rw [if_neg h4] at hx ⊢
  have := chT_node w hx; exact ⟨this.opn, this.peak.symm⟩
end Go.Proofs.Ytafipmoglaepcaa.Ac
