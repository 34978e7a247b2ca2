/-
  Child, Close and Move keep budgets right; after any calls budgets are right. Plain Lean. Conditions: none.
-/
import Derived.Test.YtafipmoglaepcaaAcWf
namespace Go.Proofs.Ytafipmoglaepcaa.Ac
open Go.Sx (tupd)

theorem row6_off {T : Tb} {i a b c d e f r : Int} (h : r ≠ i) (k : Nat) : row6 T i a b c d e f r k = T r k := by
  simp only [row6]
  repeat rw [tupd_ne (fun x => h x.1)]
theorem row6_on (T : Tb) (i a b c d e f : Int) : row6 T i a b c d e f i 0 = a ∧ row6 T i a b c d e f i 1 = b ∧ row6 T i a b c d e f i 2 = c ∧ row6 T i a b c d e f i 3 = d ∧ row6 T i a b c d e f i 4 = e ∧ row6 T i a b c d e f i 5 = f := by
  refine ⟨?_, ?_, ?_, ?_, ?_, ?_⟩ <;> simp [row6, tupd]

theorem sumN_more {f : Nat → Int} {m : Nat} : ∀ {m' : Nat}, m ≤ m' → (∀ k, m ≤ k → k < m' → f k = 0) → sumN f m' = sumN f m
  | 0, h, _ => by rw [show m = 0 by omega]
  | m' + 1, h, hz => by
    by_cases e : m = m' + 1
    · rw [e]
    · simp only [sumN]; rw [hz m' (by omega) (by omega), sumN_more (m' := m') (by omega) fun k h1 h2 => hz k h1 (by omega)]; omega

theorem sumN_zero {f : Nat → Int} : ∀ {m : Nat}, (∀ k, k < m → f k = 0) → sumN f m = 0
  | 0, _ => rfl
  | m + 1, h => by simp only [sumN]; rw [sumN_zero fun k hk => h k (by omega), h m (by omega)]; rfl

/-- Sums over children where the open nodes with something are the same. -/
theorem kids_same {S T : Tb} {n n' : Int} {r : Int} (hn : n' ≤ n ∨ n ≤ n') (h : ∀ k : Nat, (if Opn S n' k ∧ S k 0 = r then S k 5 else 0) = (if Opn T n k ∧ T k 0 = r then T k 5 else 0)) : kids S n' r = kids T n r := by
  unfold kids
  rcases hn with hn | hn
  · rw [← sumN_more (f := fun k : Nat => if Opn S n' k ∧ S k 0 = r then S k 5 else 0) (m := n'.toNat) (m' := n.toNat) (by omega)]
    · exact sumN_congr fun k _ => h k
    · intro k h1 _
      rw [if_neg]
      intro x
      have := x.1.2.1
      omega
  · rw [← sumN_more (f := fun k : Nat => if Opn T n k ∧ T k 0 = r then T k 5 else 0) (m := n.toNat) (m' := n'.toNat) (by omega)]
    · exact sumN_congr fun k _ => h k
    · intro k h1 _
      rw [if_neg]
      intro x
      have := x.1.2.1
      omega

/-! ### Child -/

theorem fcF_spec {T : Tb} {n : Int} : ∀ {f : Nat} {k : Int}, 0 ≤ k → n - k ≤ f → (fcF T n f k < 0 ∧ ∀ j, k ≤ j → j < n → T j 4 = 0) ∨ (k ≤ fcF T n f k ∧ fcF T n f k < n ∧ T (fcF T n f k) 4 ≠ 0 ∧ ∀ j, k ≤ j → j < fcF T n f k → T j 4 = 0)
  | 0, k, _, h => .inl ⟨by simp [fcF], fun j h1 h2 => by omega⟩
  | f + 1, k, h0, h => by
    simp only [fcF]
    by_cases hk : k < n
    · rw [if_pos hk]
      by_cases h4 : T k 4 ≠ 0
      · rw [if_pos h4]; exact .inr ⟨by omega, hk, h4, fun j h1 h2 => by omega⟩
      · rw [if_neg h4]
        have h4 : T k 4 = 0 := Decidable.not_not.1 h4
        rcases fcF_spec (T := T) (n := n) (f := f) (k := k + 1) (by omega) (by omega) with ⟨h1, h2⟩ | ⟨h1, h2, h3, h5⟩
        · exact .inl ⟨h1, fun j a b => by
            by_cases e : j = k
            · rw [e]; exact h4
            · exact h2 j (by omega) b⟩
        · exact .inr ⟨by omega, h2, h3, fun j a b => by
            by_cases e : j = k
            · rw [e]; exact h4
            · exact h5 j (by omega) b⟩
    · rw [if_neg hk]; exact .inl ⟨by omega, fun j h1 h2 => by omega⟩
theorem fc_spec {T : Tb} {n : Int} : (fc T n 0 < 0 ∧ ∀ j, 0 ≤ j → j < n → T j 4 = 0) ∨ (0 ≤ fc T n 0 ∧ fc T n 0 < n ∧ T (fc T n 0) 4 ≠ 0 ∧ ∀ j, 0 ≤ j → j < fc T n 0 → T j 4 = 0) :=
  fcF_spec (by omega) (by omega)

theorem cdE_ok {T : Tb} {n p l : Int} (h : cdE T n p l = 0) : Opn T n p ∧ 0 ≤ l ∧ l ≤ 4096 ∧ ¬ (fc T n 0 < 0 ∧ n = 64) := by
  unfold cdE at h
  split at h
  · omega
  rename_i h1
  split at h
  · omega
  rename_i h2
  split at h
  · omega
  rename_i h3
  simp only [outs] at h2
  exact ⟨Decidable.not_not.1 h1, by omega, by omega, h3⟩

/-- A row that is not open is made a node below p. -/
theorem child_wf {T : Tb} {n n' p l f : Int} (w : Wf T n) (hp : Opn T n p) (hl : 0 ≤ l ∧ l ≤ 4096) (hf : (0 ≤ f ∧ f < n ∧ T f 4 ≠ 0 ∧ n' = n) ∨ (f = n ∧ n' = n + 1 ∧ n < 64)) : Wf (row6 T f p l 0 0 0 0) n' := by
  have hn1 := w.n1
  have hn64 := w.n64
  obtain ⟨e0, e1, e2, e3, e4, e5⟩ := row6_on T f p l 0 0 0 0
  have hno : ¬ Opn T n f := fun x => by rcases hf with h | h; exact h.2.2.1 x.2.2; have := x.2.1; omega
  have hf0 : f ≠ 0 := fun e => by rcases hf with h | h; exact h.2.2.1 (e ▸ w.root); omega
  have ho : ∀ r, r ≠ f → (Opn (row6 T f p l 0 0 0 0) n' r ↔ Opn T n r) := fun r hr => by
    unfold Opn; rw [row6_off hr]
    rcases hf with h | h
    · rw [h.2.2.2]
    · rw [h.2.1]; constructor
      · rintro ⟨a, b, c⟩; exact ⟨a, by omega, c⟩
      · rintro ⟨a, b, c⟩; exact ⟨a, by omega, c⟩
  have hof : Opn (row6 T f p l 0 0 0 0) n' f := ⟨by omega, by omega, e4⟩
  have hne : ∀ {r}, Opn T n r → r ≠ f := fun h e => hno (e ▸ h)
  have hpar : ∀ {k}, Opn T n k → T k 0 ≠ f := fun {k} hk e => by
    by_cases h0 : k = 0
    · subst h0; rw [w.rootp] at e; rcases hf with h | h <;> omega
    · exact hno (e ▸ w.par k hk h0)
  have hkid : ∀ r, kids (row6 T f p l 0 0 0 0) n' r = kids T n r := fun r => kids_same (by omega) fun k => by
    by_cases e : (k : Int) = f
    · rw [e, e5, if_neg (fun x : Opn T n f ∧ _ => hno x.1)]; split <;> rfl
    · rw [row6_off e, row6_off e]
      by_cases hc : Opn T n k ∧ T k 0 = r
      · rw [if_pos hc, if_pos ⟨(ho k e).2 hc.1, hc.2⟩]
      · rw [if_neg hc, if_neg (fun x => hc ⟨(ho k e).1 x.1, x.2⟩)]
  refine { n1 := by omega, n64 := by omega, root := by rw [row6_off hf0.symm]; exact w.root, rootp := by rw [row6_off hf0.symm]; exact w.rootp, par := fun i hi h0 => ?_, rank := ?_, last := ?_, cl := fun r h0 h1 h4 => ?_, rng := fun r hr => ?_, sums := fun r hr => ?_ }
  · by_cases e : i = f
    · subst e; rw [e0]; exact (ho p (hne hp)).2 hp
    · rw [row6_off e]
      have := w.par i ((ho i e).1 hi) h0
      exact (ho _ (hne this)).2 this
  · refine ⟨fun x => if x = f then rk T n p + 1 else rk T n x, fun i hi h0 => ?_⟩
    by_cases e : i = f
    · subst e; simp only [e0]; rw [if_neg (hne hp), if_pos (by trivial)]; omega
    · rw [row6_off e]
      have hi' := (ho i e).1 hi
      simp only
      rw [if_neg (hpar hi'), if_neg e]
      exact rk_lt w.toWt hi' h0
  · rcases hf with h | h
    · rw [h.2.2.2]
      by_cases e : n - 1 = f
      · exact (h.2.2.1 (e ▸ w.last)).elim
      · rw [row6_off e]; exact w.last
    · rw [h.2.1, show n + 1 - 1 = f by omega]; exact e4
  · have e : r ≠ f := fun e => h4 (e ▸ e4)
    simp only [row6_off e] at h4 ⊢
    exact w.cl r h0 (by omega) h4
  · by_cases e : r = f
    · subst e; rw [e1, e2, e3, e5]; omega
    · simp only [row6_off e]; exact w.rng r ((ho r e).1 hr)
  · unfold df
    rw [hkid]
    by_cases e : r = f
    · subst e
      rw [e5, e2]
      have : kids T n r = 0 := by
        unfold kids
        refine sumN_zero fun k _ => ?_
        rw [if_neg (fun x => hpar x.1 x.2)]
      omega
    · rw [row6_off e, row6_off e]; exact w.sums r ((ho r e).1 hr)
theorem cdT_wf {T : Tb} {n p l : Int} (w : Wf T n) : Wf (cdT T n p l) (cdN T n p l) := by
  unfold cdT cdN
  by_cases h : cdE T n p l = 0
  · rw [if_pos h]
    obtain ⟨h1, h2, h3, h4⟩ := cdE_ok h
    refine child_wf w h1 ⟨h2, h3⟩ ?_
    unfold fcN
    have hn := w.n64
    rcases fc_spec (T := T) (n := n) with ⟨a, _⟩ | ⟨a, b, c, _⟩
    · rw [if_pos a, if_pos ⟨h, a⟩]; exact .inr ⟨rfl, rfl, by have : n ≠ 64 := fun e => h4 ⟨a, e⟩; omega⟩
    · rw [if_neg (by omega), if_neg (fun x => by omega)]; exact .inl ⟨a, b, c, rfl⟩
  · rw [if_neg h, if_neg (fun x => h x.1)]; exact w

/-! ### Close -/

theorem trimF_spec {T : Tb} : ∀ m : Nat, 0 ≤ trimF T m ∧ trimF T m ≤ m ∧ (∀ k, trimF T m ≤ k → k < (m : Int) → T k 4 ≠ 0) ∧ (trimF T m = 0 ∨ T (trimF T m - 1) 4 = 0)
  | 0 => ⟨by simp [trimF], by simp [trimF], fun k h1 h2 => by simp [trimF] at h1; omega, .inl rfl⟩
  | m + 1 => by
    simp only [trimF]
    by_cases h : T m 4 ≠ 0
    · rw [if_pos h]
      obtain ⟨h1, h2, h3, h4⟩ := trimF_spec (T := T) m
      exact ⟨h1, by omega, fun k a b => by
        by_cases e : k = m
        · rw [e]; exact h
        · exact h3 k a (by omega), h4⟩
    · rw [if_neg h]
      have h : T m 4 = 0 := Decidable.not_not.1 h
      exact ⟨by omega, by omega, fun k a b => by omega, .inr (by rw [show (m : Int) + 1 - 1 = m by omega]; exact h)⟩
theorem clE_ok {T : Tb} {n i : Int} (h : clE T n i = 0) : Opn T n i ∧ i ≠ 0 ∧ ¬ hasKid T n i ∧ T i 2 = 0 := by
  unfold clE at h
  split at h
  · omega
  rename_i h1
  split at h
  · omega
  rename_i h2
  split at h
  · omega
  rename_i h3
  exact ⟨Decidable.not_not.1 h1, h2, fun x => h3 (.inl x), Decidable.not_not.1 fun x => h3 (.inr x)⟩
theorem trim_opn {T : Tb} {n r : Int} (hn : 0 ≤ n) : Opn T (trimN T n) r ↔ Opn T n r := by
  have h := trimF_spec (T := T) n.toNat
  unfold trimN
  constructor
  · rintro ⟨a, b, c⟩; exact ⟨a, by omega, c⟩
  · rintro ⟨a, b, c⟩
    refine ⟨a, ?_, c⟩
    rcases Int.lt_or_le r (trimF T n.toNat) with x | x
    · exact x
    · exact (h.2.2.1 r x (by omega) c).elim
theorem clT_wf {T : Tb} {n i : Int} (w : Wf T n) : Wf (clT T n i) (clN T n i) := by
  unfold clT clN
  by_cases h : clE T n i = 0
  · rw [if_pos h, if_pos h]
    obtain ⟨hi, h0, hk, h2⟩ := clE_ok h
    have hn1 := w.n1
    have hn64 := w.n64
    obtain ⟨e0, e1, e2, e3, e4, e5⟩ := row6_on T i (-1) 0 0 0 1 0
    generalize hS : row6 T i (-1) 0 0 0 1 0 = S at *
    have off : ∀ {r}, r ≠ i → ∀ k, S r k = T r k := fun hr k => by rw [← hS]; exact row6_off hr k
    have ho : ∀ r, Opn S (trimN S n) r ↔ Opn T n r ∧ r ≠ i := fun r => by
      rw [trim_opn (by omega)]
      constructor
      · rintro ⟨a, b, c⟩
        have : r ≠ i := fun e => by rw [e, e4] at c; omega
        exact ⟨⟨a, b, by rw [← off this]; exact c⟩, this⟩
      · rintro ⟨⟨a, b, c⟩, d⟩; exact ⟨a, b, by rw [off d]; exact c⟩
    have hpar : ∀ {k}, Opn T n k → k ≠ 0 → T k 0 ≠ i := fun {k} hk' k0 e => hk ⟨k, hk', by have := hk'.1; omega, e⟩
    have hspec := trimF_spec (T := S) n.toNat
    have hr0 : S 0 4 = 0 := by rw [off h0.symm]; exact w.root
    have hge : 1 ≤ trimN S n := by
      rcases Int.lt_or_le (trimN S n) 1 with x | x
      · exact (hspec.2.2.1 0 (by unfold trimN at x; omega) (by omega) hr0).elim
      · exact x
    have hle : trimN S n ≤ n := by unfold trimN; omega
    have hall : T i 5 = 0 := by
      have hs := w.sums i hi
      have : kids T n i = 0 := by
        unfold kids
        refine sumN_zero fun k _ => ?_
        by_cases k0 : (k : Int) = 0
        · rw [if_neg]; rintro ⟨_, x⟩; rw [k0, w.rootp] at x; have := hi.1; omega
        · rw [if_neg (fun x => hpar x.1 k0 x.2)]
      unfold df at hs
      omega
    have hkid : ∀ r, kids S (trimN S n) r = kids T n r := fun r => kids_same (.inl hle) fun k => by
      by_cases e : (k : Int) = i
      · rw [e, hall, if_neg (fun x : Opn S (trimN S n) i ∧ _ => ((ho i).1 x.1).2 rfl)]; split <;> rfl
      · rw [off e, off e]
        by_cases hc : Opn T n k ∧ T k 0 = r
        · rw [if_pos hc, if_pos ⟨(ho k).2 ⟨hc.1, e⟩, hc.2⟩]
        · rw [if_neg hc, if_neg (fun x => hc ⟨((ho k).1 x.1).1, x.2⟩)]
    refine { n1 := hge, n64 := by omega, root := hr0, rootp := by rw [off h0.symm]; exact w.rootp, par := fun r hr r0 => ?_, rank := ?_, last := ?_, cl := fun r a b h4 => ?_, rng := fun r hr => ?_, sums := fun r hr => ?_ }
    · obtain ⟨hr1, hr2⟩ := (ho r).1 hr
      rw [off hr2]
      exact (ho _).2 ⟨w.par r hr1 r0, hpar hr1 r0⟩
    · refine ⟨rk T n, fun r hr r0 => ?_⟩
      obtain ⟨hr1, hr2⟩ := (ho r).1 hr
      rw [off hr2]
      exact rk_lt w.toWt hr1 r0
    · rcases hspec.2.2.2 with x | x
      · unfold trimN at hge; omega
      · exact x
    · by_cases e : r = i
      · subst e; exact ⟨e4, e0, e1, e2, e3, e5⟩
      · simp only [off e] at h4 ⊢; exact w.cl r a (by omega) h4
    · obtain ⟨hr1, hr2⟩ := (ho r).1 hr
      simp only [off hr2]; exact w.rng r hr1
    · obtain ⟨hr1, hr2⟩ := (ho r).1 hr
      unfold df
      rw [hkid, off hr2, off hr2]; exact w.sums r hr1
  · rw [if_neg h, if_neg h]; exact w

/-! ### Move -/

theorem mvE_ok {T : Tb} {n x p : Int} (h : mvE T n x p = 0) : Opn T n x ∧ Opn T n p ∧ x ≠ 0 ∧ x ∉ path T n p ∧ ¬ tooFull T n p (T x 0) (T x 5) := by
  unfold mvE at h
  split at h
  · omega
  rename_i h1
  split at h
  · omega
  rename_i h2
  split at h
  · omega
  rename_i h3
  split at h
  · omega
  rename_i h4
  exact ⟨Decidable.not_not.1 fun x => h1 (.inl x), Decidable.not_not.1 fun x => h1 (.inr x), h2, h3, h4⟩
theorem subP_shape (T : Tb) (n o a : Int) : Shape (subP T n o a) T := fun r => by simp [subP]
theorem subP_off (T : Tb) (n o a r : Int) {c : Nat} (h : c ≠ 5) : subP T n o a r c = T r c := by simp [subP, h]
theorem subP_5 (T : Tb) (n o a r : Int) : subP T n o a r 5 = T r 5 - (if r ∈ path T n o then a else 0) := by by_cases h : r ∈ path T n o <;> simp [subP, h]

section
variable {T : Tb} {n x p : Int}
/-- The tree with x below p. -/
theorem moved_wt {S : Tb} (w : Wt T n) (hx : Opn T n x) (hp : Opn T n p) (h0 : x ≠ 0) (hn : x ∉ path T n p) (hs : ∀ r, S r 4 = T r 4 ∧ S r 0 = if r = x then p else T r 0) : Wt S n := by
  have ho : ∀ r, Opn S n r ↔ Opn T n r := fun r => by unfold Opn; rw [(hs r).1]
  refine { n1 := w.n1, n64 := w.n64, root := by rw [(hs 0).1]; exact w.root, rootp := by rw [(hs 0).2, if_neg h0.symm]; exact w.rootp, par := fun i hi i0 => ?_, rank := ?_ }
  · rw [(hs i).2]
    by_cases e : i = x
    · rw [if_pos e]; exact (ho p).2 hp
    · rw [if_neg e]; exact (ho _).2 (w.par i ((ho i).1 hi) i0)
  · refine ⟨fun i => if x ∈ path T n i then rk T n i + (rk T n p + 1) else rk T n i, fun i hi i0 => ?_⟩
    have hi' := (ho i).1 hi
    simp only
    rw [(hs i).2]
    by_cases e : i = x
    · subst e
      rw [if_pos rfl, if_neg hn, if_pos (by rw [path_open w hi']; exact List.mem_cons_self)]; omega
    · rw [if_neg e]
      have hr := rk_lt w hi' i0
      have hm : x ∈ path T n i ↔ x ∈ path T n (T i 0) := by
        rw [path_open w hi', List.mem_cons]
        exact ⟨fun h => h.resolve_left fun h => e h.symm, .inr⟩
      by_cases hc : x ∈ path T n i
      · rw [if_pos hc, if_pos (hm.1 hc)]; omega
      · rw [if_neg hc, if_neg (fun h => hc (hm.2 h))]; exact hr
theorem moved_path {S : Tb} (w : Wt T n) (w' : Wt S n) (hs : ∀ r, S r 4 = T r 4 ∧ S r 0 = if r = x then p else T r 0) : ∀ i, x ∉ path T n i → path S n i = path T n i := by
  have ho : ∀ r, Opn S n r ↔ Opn T n r := fun r => by unfold Opn; rw [(hs r).1]
  refine up w (fun i hi _ => by rw [path_not hi, path_not (fun h => hi ((ho i).1 h))]) (fun i hi ih hn => ?_)
  rw [path_open w hi, List.mem_cons, not_or] at hn
  rw [path_open w hi, path_open w' ((ho i).2 hi), (hs i).2, if_neg (fun e => hn.1 e.symm), ih hn.2]

theorem mvT_parts (w : Wf T n) (h : mvE T n x p = 0) {S : Tb} (hS : tupd (subP T n (T x 0) (T x 5)) x 0 p = S) :
    Wt S n ∧ path S n p = path T n p ∧ (∀ r, S r 4 = T r 4 ∧ S r 0 = if r = x then p else T r 0) ∧ (∀ r, S r 5 = T r 5 - (if r ∈ path T n (T x 0) then T x 5 else 0)) ∧ (∀ r c, c ≠ 5 → c ≠ 0 → S r c = T r c) := by
  obtain ⟨hx, hp, h0, hn, _⟩ := mvE_ok h
  have hs : ∀ r, S r 4 = T r 4 ∧ S r 0 = if r = x then p else T r 0 := fun r => by
    refine ⟨by rw [← hS, tupd_ne (by omega), subP_off _ _ _ _ _ (by omega)], ?_⟩
    by_cases e : r = x
    · subst e; rw [if_pos rfl, ← hS]; exact tupd_same _ _ _ _
    · rw [if_neg e, ← hS, tupd_ne (fun y => e y.1), subP_off _ _ _ _ _ (by omega)]
  have wS := moved_wt w.toWt hx hp h0 hn hs
  exact ⟨wS, moved_path w.toWt wS hs p hn, hs, fun r => by rw [← hS, tupd_ne (by omega), subP_5], fun r c h5 h0 => by rw [← hS, tupd_ne (fun y => h0 y.2), subP_off _ _ _ _ _ h5]⟩

theorem mvT_wf (w : Wf T n) : Wf (mvT T n x p) n := by
  unfold mvT
  by_cases h : mvE T n x p = 0
  · rw [if_pos h]
    obtain ⟨hx, hp, h0, hn, hfull⟩ := mvE_ok h
    generalize hS : tupd (subP T n (T x 0) (T x 5)) x 0 p = S
    obtain ⟨wS, hpath, hs, h5, hoff⟩ := mvT_parts w h hS
    have ho : ∀ r, Opn S n r ↔ Opn T n r := fun r => by unfold Opn; rw [(hs r).1]
    have hA := addP_shape S n p (T x 5)
    have ho' : ∀ r, Opn (addP S n p (T x 5)) n r ↔ Opn T n r := fun r => hA.opn.trans (ho r)
    have hxo : x ∉ path T n (T x 0) := not_mem_par w.toWt hx
    have ha0 := (w.rng x hx).2.2.2.1
    have hx5 : S x 5 = T x 5 := by rw [h5, if_neg hxo]; omega
    have e5 : ∀ r, addP S n p (T x 5) r 5 = T r 5 - (if r ∈ path T n (T x 0) then T x 5 else 0) + (if r ∈ path T n p then T x 5 else 0) := fun r => by rw [addP_5, hpath, h5]
    have e3 : ∀ r, addP S n p (T x 5) r 3 = if r ∈ path T n p then max (T r 3) (addP S n p (T x 5) r 5) else T r 3 := fun r => by
      rw [addP_3, hpath, addP_5, hpath, hoff r 3 (by omega) (by omega)]
      by_cases hm : r ∈ path T n p
      · rw [if_pos hm, if_pos hm, if_pos hm]
      · rw [if_neg hm, if_neg hm]
    have e2 : ∀ r, addP S n p (T x 5) r 2 = T r 2 := fun r => by rw [addP_2, hoff r 2 (by omega) (by omega)]
    have e1 : ∀ r, addP S n p (T x 5) r 1 = T r 1 := fun r => by rw [addP_1, hoff r 1 (by omega) (by omega)]
    refine { hA.wt wS with last := by rw [(hA _).2, (hs _).1]; exact w.last, cl := fun r a b h4 => ?_, rng := fun r hr => ?_, sums := fun r hr => ?_ }
    · rw [(hA r).2, (hs r).1] at h4
      have hno : ¬ Opn T n r := fun y => h4 y.2.2
      have m1 : r ∉ path T n (T x 0) := fun y => hno (mem_path w.toWt _ y).1
      have m2 : r ∉ path T n p := fun y => hno (mem_path w.toWt _ y).1
      have hne : r ≠ x := fun e => hno (e ▸ hx)
      have := w.cl r a b h4
      rw [(hA r).2, (hs r).1, (hA r).1, (hs r).2, if_neg hne, e1, e2, e3, e5, if_neg m1, if_neg m2, if_neg m2]
      omega
    · have hr' := (ho' r).1 hr
      have hw := w.rng r hr'
      have hlow : r ∈ path T n (T x 0) → T x 5 ≤ T r 5 := fun hm => w.path_le x (by rw [path_open w.toWt hx]; exact List.mem_cons_of_mem _ hm)
      have hup : r ∈ path T n p → r ∉ path T n (T x 0) → T x 5 = 0 ∨ T r 5 + T x 5 ≤ T r 1 := fun m1 m2 => by
        by_cases z : T x 5 > 0
        · right
          by_cases y : T x 5 > room T r
          · exact (hfull ⟨r, m1, z, y, m2⟩).elim
          · unfold room at y; omega
        · left; omega
      rw [e3, e5, e2, e1]
      by_cases m1 : r ∈ path T n (T x 0)
      · have := hlow m1
        by_cases m2 : r ∈ path T n p
        · rw [if_pos m1, if_pos m2, if_pos m2]; omega
        · rw [if_pos m1, if_neg m2, if_neg m2]; omega
      · by_cases m2 : r ∈ path T n p
        · have := hup m2 m1
          rw [if_neg m1, if_pos m2, if_pos m2]; omega
        · rw [if_neg m1, if_neg m2, if_neg m2]; omega
    · have hr' := (ho' r).1 hr
      -- taken away along the old path
      have a1 : Along (subP T n (T x 0) (T x 5)) T n (T x 0) (- T x 5) := ⟨subP_shape _ _ _ _, fun r => subP_off _ _ _ _ _ (by omega), fun r => by rw [subP_5]; split <;> omega⟩
      have d1 := along_df w.toWt _ _ a1 r hr'
      rw [w.sums r hr'] at d1
      -- added along the new one
      have a3 : Along (addP S n p (T x 5)) S n p (T x 5) := ⟨hA, fun r => addP_2 _ _ _ _ _, fun r => addP_5 _ _ _ _ _⟩
      have d3 := along_df wS _ _ a3 r ((ho r).2 hr')
      -- x below another one
      have hopar := w.par x hx h0
      have hk : kids S n r = kids (subP T n (T x 0) (T x 5)) n r - (if T x 0 = r then T x 5 else 0) + (if p = r then T x 5 else 0) := by
        unfold kids
        have hx0 := hx.1
        have hxn := hx.2.1
        have ex : ((x.toNat : Nat) : Int) = x := by omega
        rw [sumN_at (f := fun k : Nat => if Opn S n k ∧ S k 0 = r then S k 5 else 0) (g := fun k : Nat => if Opn (subP T n (T x 0) (T x 5)) n k ∧ subP T n (T x 0) (T x 5) k 0 = r then subP T n (T x 0) (T x 5) k 5 else 0) (j := x.toNat) (by omega)]
        · simp only [ex]
          have o1 : Opn S n x := (ho x).2 hx
          have o2 : Opn (subP T n (T x 0) (T x 5)) n x := (subP_shape _ _ _ _).opn.2 hx
          have s0 : S x 0 = p := by rw [(hs x).2, if_pos rfl]
          have s1 : subP T n (T x 0) (T x 5) x 0 = T x 0 := subP_off _ _ _ _ _ (by omega)
          have s2 : subP T n (T x 0) (T x 5) x 5 = T x 5 := by rw [subP_5, if_neg hxo]; omega
          rw [s0, s1, s2, hx5]
          have A : (if Opn S n x ∧ p = r then T x 5 else 0) = (if p = r then T x 5 else 0) := by
            by_cases q : p = r
            · rw [if_pos q, if_pos ⟨o1, q⟩]
            · rw [if_neg q, if_neg (fun y => q y.2)]
          have B : (if Opn (subP T n (T x 0) (T x 5)) n x ∧ T x 0 = r then T x 5 else 0) = (if T x 0 = r then T x 5 else 0) := by
            by_cases q : T x 0 = r
            · rw [if_pos q, if_pos ⟨o2, q⟩]
            · rw [if_neg q, if_neg (fun y => q y.2)]
          rw [A, B]; omega
        · intro k _ hne
          have hk : (k : Int) ≠ x := fun e => hne (by omega)
          have s0 : S k 0 = subP T n (T x 0) (T x 5) k 0 := by rw [(hs k).2, if_neg hk, subP_off _ _ _ _ _ (by omega)]
          have s5 : S k 5 = subP T n (T x 0) (T x 5) k 5 := by rw [h5, subP_5]
          have so : Opn S n k ↔ Opn (subP T n (T x 0) (T x 5)) n k := (ho k).trans (subP_shape _ _ _ _).opn.symm
          simp only [s0, s5, so]
      have d2 : df S n r = df (subP T n (T x 0) (T x 5)) n r + (if T x 0 = r then T x 5 else 0) - (if p = r then T x 5 else 0) := by
        unfold df
        have z2 : subP T n (T x 0) (T x 5) r 2 = T r 2 := subP_off _ _ _ _ _ (by omega)
        rw [hk, hoff r 2 (by omega) (by omega), z2, h5, subP_5]
        omega
      rw [d3, d2, d1]
      have op : Opn S n p := (ho p).2 hp
      by_cases q1 : r = T x 0
      · rw [if_pos ⟨hopar, q1⟩, if_pos q1.symm]
        by_cases q2 : r = p
        · rw [if_pos q2.symm, if_pos ⟨op, q2⟩]; omega
        · rw [if_neg (fun e => q2 e.symm), if_neg (fun y => q2 y.2)]; omega
      · rw [if_neg (fun y => q1 y.2), if_neg (fun e => q1 e.symm)]
        by_cases q2 : r = p
        · rw [if_pos q2.symm, if_pos ⟨op, q2⟩]; omega
        · rw [if_neg (fun e => q2 e.symm), if_neg (fun y => q2 y.2)]; omega
  · rw [if_neg h]; exact w
end

/-! ### Any calls -/

theorem newT_wf {l : Int} (h : 0 ≤ l ∧ l ≤ 4096) : Wf (newT l) 1 := by
  obtain ⟨e0, e1, e2, e3, e4, e5⟩ := row6_on (fun _ _ => 0) 0 (-1) l 0 0 0 0
  have ho : ∀ r, Opn (newT l) 1 r → r = 0 := fun r hr => by have := hr.1; have := hr.2.1; omega
  have hr0 : ∀ r, Opn (newT l) 1 r → newT l r 1 = l ∧ newT l r 2 = 0 ∧ newT l r 3 = 0 ∧ newT l r 5 = 0 := fun r hr => by rw [ho r hr]; exact ⟨e1, e2, e3, e5⟩
  refine { n1 := by omega, n64 := by omega, root := e4, rootp := e0, par := fun i hi h0 => (h0 (ho i hi)).elim, rank := ⟨fun _ => 0, fun i hi h0 => (h0 (ho i hi)).elim⟩, last := e4, cl := fun r a b h4 => ?_, rng := fun r hr => ?_, sums := fun r hr => ?_ }
  · have : r = 0 := by omega
    subst this
    exact (h4 e4).elim
  · obtain ⟨a, b, c, d⟩ := hr0 r hr; omega
  · obtain ⟨a, b, c, d⟩ := hr0 r hr
    have hk : kids (newT l) 1 r = 0 := by
      unfold kids
      simp only [show (1 : Int).toNat = 1 from rfl, sumN]
      split
      · rename_i x; have : newT l 0 5 = 0 := e5; simp [this]
      · simp
    unfold df
    omega
theorem doT_wf {T : Tb} {n k a b : Int} (w : Wf T n) : Wf (doT T n k a b) (doN T n k a b) := by
  unfold doT doN
  by_cases h0 : k % 8 = 0
  · rw [if_pos h0, if_pos h0]; exact cdT_wf w
  rw [if_neg h0, if_neg h0]
  by_cases h1 : k % 8 = 1
  · rw [if_pos h1, if_pos h1]; exact clT_wf w
  rw [if_neg h1, if_neg h1]
  split
  · exact giT_wf w
  split
  · exact slT_wf w
  split
  · exact mvT_wf w
  · exact chT_wf w
theorem st_wf {l : Int} (h : 0 ≤ l ∧ l ≤ 4096) (L : Tb) : ∀ k, Wf (st l L k).1 (st l L k).2
  | 0 => newT_wf h
  | k + 1 => doT_wf (st_wf h L k)
end Go.Proofs.Ytafipmoglaepcaa.Ac
