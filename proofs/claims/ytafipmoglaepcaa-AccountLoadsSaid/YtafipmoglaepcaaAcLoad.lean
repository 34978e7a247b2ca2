/-
  Which states are right: the nodes that are reached from the root, and the sums. Plain Lean; no program is spoken of. Conditions: none.
-/
import Derived.Test.YtafipmoglaepcaaAcAg
namespace Go.Proofs.Ytafipmoglaepcaa.Ac
open Go.Sx (tupd)

structure Top (R : Tb) (n : Int) : Prop where
  n1 : 1 ≤ n
  n64 : n ≤ 64
  root : R 0 4 = 0
  rootp : R 0 0 = -1

def good (R : Tb) (n i : Int) : Prop := Opn R n i ∧ 0 ∈ pthL R n i
instance (R : Tb) (n i : Int) : Decidable (good R n i) := inferInstanceAs (Decidable (_ ∧ _))
/-- Only nodes that are reached are open. -/
def gdT (R : Tb) (n : Int) : Tb := fun r c => if c = 4 then (if good R n r then 0 else 1) else R r c

theorem ite_iff {α : Type} {p q : Prop} (h : p ↔ q) (a b : α) {_ : Decidable p} {_ : Decidable q} : (if p then a else b) = if q then a else b := by
  by_cases hq : q
  · rw [if_pos hq, if_pos (h.2 hq)]
  · rw [if_neg hq, if_neg (fun x => hq (h.1 x))]
theorem exT_0 (R : Tb) (n r : Int) : exT R n r 0 = R r 0 := exT_ne R n r (by omega)
theorem exT_1 (R : Tb) (n r : Int) : exT R n r 1 = R r 1 := exT_ne R n r (by omega)
theorem exT_2 (R : Tb) (n r : Int) : exT R n r 2 = R r 2 := exT_ne R n r (by omega)
theorem exT_3 (R : Tb) (n r : Int) : exT R n r 3 = R r 3 := exT_ne R n r (by omega)
theorem exT_4 (R : Tb) (n r : Int) : exT R n r 4 = R r 4 := exT_ne R n r (by omega)
theorem gd_opn {R : Tb} {n i : Int} : Opn (gdT R n) n i ↔ good R n i := by
  constructor
  · rintro ⟨a, b, c⟩
    simp only [gdT, if_true] at c
    by_cases h : good R n i
    · exact h
    · rw [if_neg h] at c; omega
  · intro h
    exact ⟨h.1.1, h.1.2.1, by simp [gdT, h]⟩
theorem gd_0 (R : Tb) (n r : Int) : gdT R n r 0 = R r 0 := by simp [gdT]
theorem gd_2 (R : Tb) (n r : Int) : gdT R n r 2 = R r 2 := by simp [gdT]

theorem pathF_neg (R : Tb) (n : Int) : ∀ f, pathF R n f (-1) = []
  | 0 => rfl
  | f + 1 => by simp [pathF, not_opn_neg]
theorem pathF_stable {R : Tb} {n : Int} (h : Top R n) : ∀ (f : Nat) (i : Int), 0 ∈ pathF R n f i → pathF R n (f + 1) i = pathF R n f i
  | 0, i, hm => by simp [pathF] at hm
  | f + 1, i, hm => by
    by_cases ho : Opn R n i
    · rw [pathF, if_pos ho] at hm
      conv => lhs; rw [pathF, if_pos ho]
      conv => rhs; rw [pathF, if_pos ho]
      congr 1
      by_cases h0 : i = 0
      · subst h0; rw [h.rootp, pathF_neg, pathF_neg]
      · exact pathF_stable h f _ (by rcases List.mem_cons.1 hm with e | e; exact absurd e.symm h0; exact e)
    · rw [pathF, if_neg ho] at hm; cases hm

theorem good_par {R : Tb} {n i : Int} (h : Top R n) (hi : good R n i) (h0 : i ≠ 0) : good R n (R i 0) ∧ (pthL R n i).length = (pthL R n (R i 0)).length + 1 ∧ pthL R n i = i :: pthL R n (R i 0) := by
  have hn := h.n1
  obtain ⟨ho, hm⟩ := hi
  have e : (n + 1).toNat = n.toNat + 1 := by omega
  have hp : pthL R n i = i :: pathF R n n.toNat (R i 0) := by unfold pthL; rw [e, pathF, if_pos ho]
  rw [hp] at hm
  have hm' : 0 ∈ pathF R n n.toNat (R i 0) := by rcases List.mem_cons.1 hm with x | x; exact absurd x.symm h0; exact x
  have hs := pathF_stable h _ _ hm'
  have hp' : pthL R n (R i 0) = pathF R n n.toNat (R i 0) := by unfold pthL; rw [e]; exact hs
  refine ⟨⟨?_, by rw [hp']; exact hm'⟩, by rw [hp, hp', List.length_cons], by rw [hp, hp']⟩
  have : n.toNat = (n.toNat - 1) + 1 := by omega
  rw [this, pathF] at hm'
  by_cases ho' : Opn R n (R i 0)
  · exact ho'
  · rw [if_neg ho'] at hm'; cases hm'
theorem good_root {R : Tb} {n : Int} (h : Top R n) : good R n 0 := by
  have hn := h.n1
  have ho : Opn R n 0 := ⟨by omega, by omega, h.root⟩
  refine ⟨ho, ?_⟩
  unfold pthL
  rw [show (n + 1).toNat = n.toNat + 1 by omega, pathF, if_pos ho]
  exact List.mem_cons_self
theorem gd_wt {R : Tb} {n : Int} (h : Top R n) : Wt (gdT R n) n where
  n1 := h.n1
  n64 := h.n64
  root := (gd_opn.2 (good_root h)).2.2
  rootp := by rw [gd_0]; exact h.rootp
  par := fun i hi h0 => by rw [gd_0]; exact gd_opn.2 (good_par h (gd_opn.1 hi) h0).1
  rank := ⟨fun i => (pthL R n i).length, fun i hi h0 => by
    have := (good_par h (gd_opn.1 hi) h0).2.1
    show (pthL R n (gdT R n i 0)).length < (pthL R n i).length
    rw [gd_0]; omega⟩
theorem pathF_gd {R : Tb} {n : Int} (h : Top R n) : ∀ (f : Nat) (i : Int), good R n i → pathF R n f i = pathF (gdT R n) n f i
  | 0, _, _ => rfl
  | f + 1, i, hi => by
    rw [pathF, if_pos hi.1, pathF, if_pos (gd_opn.2 hi), gd_0]
    congr 1
    by_cases h0 : i = 0
    · subst h0; rw [h.rootp, pathF_neg, pathF_neg]
    · exact pathF_gd h f _ (good_par h hi h0).1
theorem pthL_gd {R : Tb} {n i : Int} (h : Top R n) (hi : good R n i) : pthL R n i = path (gdT R n) n i := by
  rw [← pthL_path (gd_wt h)]; exact pathF_gd h _ _ hi
theorem pathF_less (R : Tb) (n : Int) : ∀ (f : Nat) (i : Int), pathF R n f i = (pathF R n (f + 1) i).take f
  | 0, _ => by simp [pathF]
  | f + 1, i => by
    rw [pathF]
    conv => rhs; rw [pathF]
    by_cases h : Opn R n i
    · rw [if_pos h, if_pos h, List.take_succ_cons, ← pathF_less R n f]
    · rw [if_neg h, if_neg h]; rfl
theorem good_kid {R : Tb} {n i k : Int} (h : Top R n) (hi : good R n i) (hk : Opn R n k) (e : R k 0 = i) : good R n k := by
  have hn := h.n1
  refine ⟨hk, ?_⟩
  have hp := pthL_gd h hi
  have hl := path_len_n (gd_wt h) i
  rw [← hp] at hl
  have e1 : (n + 1).toNat = n.toNat + 1 := by omega
  unfold pthL
  rw [e1, pathF, if_pos hk, e]
  refine List.mem_cons_of_mem _ ?_
  rw [pathF_less, ← e1]
  show 0 ∈ (pthL R n i).take n.toNat
  rw [List.take_of_length_le hl]
  exact hi.2

theorem pathF_shape {A B : Tb} (h : Shape A B) (n : Int) : ∀ (f : Nat) (i : Int), pathF A n f i = pathF B n f i
  | 0, _ => rfl
  | f + 1, i => by
    rw [pathF, pathF, (h i).1, pathF_shape h n f]
    by_cases ho : Opn B n i
    · rw [if_pos ho, if_pos (h.opn.2 ho)]
    · rw [if_neg ho, if_neg (fun x => ho (h.opn.1 x))]
theorem gd_shape {A B : Tb} (h : Shape A B) (n : Int) : Shape (gdT A n) (gdT B n) := fun r => by
  refine ⟨by rw [gd_0, gd_0]; exact (h r).1, ?_⟩
  have : good A n r ↔ good B n r := by unfold good pthL; rw [h.opn, pathF_shape h]
  by_cases hg : good B n r
  · simp [gdT, hg, this.2 hg]
  · have hg' : ¬ good A n r := fun x => hg (this.1 x)
    simp [gdT, hg, hg']
theorem Shape.top {A B : Tb} {n : Int} (h : Shape A B) (t : Top B n) : Top A n := ⟨t.n1, t.n64, by rw [(h 0).2]; exact t.root, by rw [(h 0).1]; exact t.rootp⟩

/-! ### The walk in Load -/

open Classical in
/-- Behind the children up to k. -/
noncomputable def wlK (S : Tb) (n i k : Int) : Tb := fun r c =>
  if c = 5 ∧ (r = i ∨ ∃ j, 0 < j ∧ j < k ∧ Opn (gdT S n) n j ∧ S j 0 = i ∧ j ∈ path (gdT S n) n r) then S r 2 else S r c
open Classical in
noncomputable def wlk (S : Tb) (n i : Int) : Tb := fun r c =>
  if c = 5 ∧ i ∈ path (gdT S n) n r then S r 2 else S r c

theorem wlK_ne (S : Tb) (n i k r : Int) {c : Nat} (h : c ≠ 5) : wlK S n i k r c = S r c := by unfold wlK; rw [if_neg (fun x => h x.1)]
theorem wlk_ne (S : Tb) (n i r : Int) {c : Nat} (h : c ≠ 5) : wlk S n i r c = S r c := by unfold wlk; rw [if_neg (fun x => h x.1)]
theorem wlK_shape (S : Tb) (n i k : Int) : Shape (wlK S n i k) S := fun r => ⟨wlK_ne _ _ _ _ _ (by omega), wlK_ne _ _ _ _ _ (by omega)⟩
theorem wlk_shape (S : Tb) (n i : Int) : Shape (wlk S n i) S := fun r => ⟨wlk_ne _ _ _ _ (by omega), wlk_ne _ _ _ _ (by omega)⟩
theorem wlK_0 (S : Tb) (n i : Int) : tupd S i 5 (S i 2) = wlK S n i 0 := by
  funext r c
  unfold wlK tupd
  by_cases h : r = i ∧ c = 5
  · rw [if_pos h, if_pos ⟨h.2, .inl h.1⟩, h.1]
  · rw [if_neg h, if_neg]
    rintro ⟨h1, h2 | ⟨j, h2, h3, _⟩⟩
    · exact h ⟨h2, h1⟩
    · omega
theorem wlK_skip {S : Tb} {n i k : Int} (h : ¬ (Opn (gdT S n) n k ∧ 0 < k ∧ S k 0 = i)) : wlK S n i (k + 1) = wlK S n i k := by
  funext r c
  unfold wlK
  have : (∃ j, 0 < j ∧ j < k + 1 ∧ Opn (gdT S n) n j ∧ S j 0 = i ∧ j ∈ path (gdT S n) n r) ↔ (∃ j, 0 < j ∧ j < k ∧ Opn (gdT S n) n j ∧ S j 0 = i ∧ j ∈ path (gdT S n) n r) := by
    constructor
    · rintro ⟨j, h1, h2, h3, h4, h5⟩
      refine ⟨j, h1, ?_, h3, h4, h5⟩
      have : j ≠ k := fun e => by subst e; exact h ⟨h3, h1, h4⟩
      omega
    · rintro ⟨j, h1, h2, h3⟩; exact ⟨j, h1, by omega, h3⟩
  exact ite_iff (by rw [this]) _ _
theorem wlK_step {S : Tb} {n i k : Int} (t : Top S n) (h : Opn (gdT S n) n k) (h0 : 0 < k) (e : S k 0 = i) : wlk (wlK S n i k) n k = wlK S n i (k + 1) := by
  have hs := gd_shape (wlK_shape S n i k) n
  have hp : ∀ r, path (gdT (wlK S n i k) n) n r = path (gdT S n) n r := hs.path (gd_wt t)
  funext r c
  unfold wlk
  rw [hp]
  by_cases hc : c = 5
  · subst hc
    rw [wlK_ne _ _ _ _ _ (by omega)]
    by_cases hk : k ∈ path (gdT S n) n r
    · rw [if_pos ⟨rfl, hk⟩]
      unfold wlK
      rw [if_pos ⟨rfl, .inr ⟨k, h0, by omega, h, e, hk⟩⟩]
    · rw [if_neg (fun x => hk x.2)]
      unfold wlK
      have : (∃ j, 0 < j ∧ j < k + 1 ∧ Opn (gdT S n) n j ∧ S j 0 = i ∧ j ∈ path (gdT S n) n r) ↔ (∃ j, 0 < j ∧ j < k ∧ Opn (gdT S n) n j ∧ S j 0 = i ∧ j ∈ path (gdT S n) n r) := by
        constructor
        · rintro ⟨j, h1, h2, h3, h4, h5⟩
          refine ⟨j, h1, ?_, h3, h4, h5⟩
          have : j ≠ k := fun e => by subst e; exact hk h5
          omega
        · rintro ⟨j, h1, h2, h3⟩; exact ⟨j, h1, by omega, h3⟩
      exact ite_iff (by rw [this]) _ _
  · rw [if_neg (fun x => hc x.1), wlK_ne _ _ _ _ _ hc, wlK_ne _ _ _ _ _ hc]
theorem wlK_last {S : Tb} {n i : Int} (t : Top S n) (hi : Opn (gdT S n) n i) : wlK S n i n = wlk S n i := by
  have w := gd_wt t
  have key : ∀ r, (r = i ∨ ∃ j, 0 < j ∧ j < n ∧ Opn (gdT S n) n j ∧ S j 0 = i ∧ j ∈ path (gdT S n) n r) ↔ i ∈ path (gdT S n) n r := by
    intro r
    constructor
    · rintro (rfl | ⟨j, h1, h2, h3, h4, h5⟩)
      · rw [path_open w hi]; exact List.mem_cons_self
      · refine path_trans w (j := j) ?_ r h5
        rw [path_open w h3, gd_0, h4, path_open w hi]
        exact List.mem_cons_of_mem _ List.mem_cons_self
    · refine up w (P := fun r => i ∈ path (gdT S n) n r → (r = i ∨ ∃ j, 0 < j ∧ j < n ∧ Opn (gdT S n) n j ∧ S j 0 = i ∧ j ∈ path (gdT S n) n r)) (fun r hr hm => ?_) (fun r hr ih hm => ?_) r
      · rw [path_not hr] at hm; cases hm
      · rw [path_open w hr] at hm ⊢
        rcases List.mem_cons.1 hm with h | h
        · exact .inl h.symm
        · right
          rcases ih h with e | ⟨j, h1, h2, h3, h4, h5⟩
          · rw [gd_0] at e
            have hr0 : r ≠ 0 := fun x => by subst x; rw [t.rootp] at e; have := hi.1; omega
            exact ⟨r, by have := hr.1; omega, hr.2.1, hr, e, List.mem_cons_self⟩
          · exact ⟨j, h1, h2, h3, h4, List.mem_cons_of_mem _ h5⟩
  funext r c
  unfold wlK wlk
  exact ite_iff (by rw [key]) _ _

/-! ### How many are reached -/

def opens (R : Tb) (n k : Int) : Int := sumN (fun j => if Opn R n j then 1 else 0) k.toNat
theorem opens_0 (R : Tb) (n : Int) : opens R n 0 = 0 := rfl
theorem opens_step {R : Tb} {n k : Int} (h : 0 ≤ k) : opens R n (k + 1) = opens R n k + (if Opn R n k then 1 else 0) := by
  unfold opens
  rw [show (k + 1).toNat = k.toNat + 1 by omega]
  simp only [sumN, show ((k.toNat : Nat) : Int) = k by omega]
theorem opens_rng {R : Tb} {n : Int} : ∀ k : Nat, 0 ≤ opens R n k ∧ opens R n k ≤ k
  | 0 => by simp [opens, sumN]
  | k + 1 => by
    have h := opens_rng (R := R) (n := n) k
    have e := opens_step (R := R) (n := n) (k := k) (by omega)
    rw [show ((k + 1 : Nat) : Int) = (k : Int) + 1 by omega, e]
    split <;> omega
theorem sumN_eq {f g : Nat → Int} : ∀ {m : Nat}, (∀ k, k < m → f k ≤ g k) → sumN f m = sumN g m → ∀ k, k < m → f k = g k
  | 0, _, _, k, hk => by omega
  | m + 1, h, e, k, hk => by
    simp only [sumN] at e
    have h1 := sumN_le (f := f) (g := g) (m := m) fun k hk => h k (by omega)
    have h2 := h m (by omega)
    by_cases hkm : k = m
    · subst hkm; omega
    · exact sumN_eq (m := m) (fun k hk => h k (by omega)) (by omega) k (by omega)
theorem reached {R : Tb} {n : Int} (t : Top R n) : size (gdT R n) n 0 = opens R n n ↔ ∀ i, Opn R n i → good R n i := by
  have hn := t.n1
  have w := gd_wt t
  have e : size (gdT R n) n 0 = sumN (fun j => if good R n j then 1 else 0) n.toNat := by
    unfold size
    refine sumN_congr fun k _ => ?_
    by_cases hg : good R n k
    · have ho := gd_opn.2 hg
      rw [if_pos hg, if_pos ⟨ho, path_root w _ ho⟩]
    · rw [if_neg hg, if_neg (fun x => hg (gd_opn.1 x.1))]
  rw [e]
  unfold opens
  constructor
  · intro h i hi
    have hle : ∀ k, k < n.toNat → (fun j : Nat => if good R n j then (1 : Int) else 0) k ≤ (fun j : Nat => if Opn R n j then (1 : Int) else 0) k := fun k _ => by
      by_cases hg : good R n k
      · simp [hg, hg.1]
      · by_cases ho : Opn R n k <;> simp [hg, ho]
    have h1 := hi.1
    have h2 := hi.2.1
    have := sumN_eq hle h i.toNat (by omega)
    simp only [show ((i.toNat : Nat) : Int) = i by omega, if_pos hi] at this
    by_cases hg : good R n i
    · exact hg
    · rw [if_neg hg] at this; omega
  · intro h
    refine sumN_congr fun k _ => ?_
    by_cases ho : Opn R n k
    · rw [if_pos ho, if_pos (h _ ho)]
    · rw [if_neg ho, if_neg (fun x => ho x.1)]
theorem wt_of {R : Tb} {n : Int} (t : Top R n) (h : ∀ i, Opn R n i → good R n i) : Wt R n where
  n1 := t.n1
  n64 := t.n64
  root := t.root
  rootp := t.rootp
  par := fun i hi h0 => (good_par t (h i hi) h0).1.1
  rank := ⟨fun i => (pthL R n i).length, fun i hi h0 => by
    have := (good_par t (h i hi) h0).2.1
    show (pthL R n (R i 0)).length < (pthL R n i).length
    omega⟩
theorem good_of {R : Tb} {n : Int} (w : Wt R n) {i : Int} (h : Opn R n i) : good R n i := ⟨h, by rw [pthL_path w]; exact path_root w i h⟩
theorem Wt.top {R : Tb} {n : Int} (w : Wt R n) : Top R n := ⟨w.n1, w.n64, w.root, w.rootp⟩

/-! ### What a state must be -/

def RowOk (R : Tb) (r : Int) : Prop :=
  if R r 4 = 0 then 0 ≤ R r 1 ∧ R r 1 ≤ 4096 ∧ 0 ≤ R r 2 ∧ R r 2 ≤ 4096 ∧ 0 ≤ R r 3 ∧ R r 3 ≤ 4096 else R r 0 = -1 ∧ R r 1 = 0 ∧ R r 2 = 0 ∧ R r 3 = 0
def RowsOk (R : Tb) (k : Int) : Prop := ∀ r, 0 ≤ r → r < k → RowOk R r
/-- A state as it is given. -/
def GivenR (R : Tb) (n : Int) : Prop := 0 ≤ n ∧ ∀ r, 0 ≤ r → r < n → R r 4 = 0 ∨ R r 4 = 1
def RightR (R : Tb) (n : Int) : Prop := Wf (exT R n) n
noncomputable def ldE (n : Int) : Int := if n > 64 then 3 else 6

theorem RowsOk.own {R : Tb} {n : Int} (h : RowsOk R n) : OwnRng R n := fun r h0 h1 => by
  have := h r h0 h1
  unfold RowOk at this
  split at this <;> omega
theorem right_rows {R : Tb} {n : Int} (w : RightR R n) : RowsOk R n := fun r h0 h1 => by
  have ho := rown w r h0 h1
  unfold RowOk
  split
  · rename_i h4
    have hr := w.rng r (exT_opn.2 ⟨h0, h1, h4⟩)
    simp only [exT_0, exT_1, exT_2, exT_3, exT_4, exT_5] at hr
    omega
  · rename_i h4
    have hr := w.cl r h0 h1 (by simp only [exT_0, exT_1, exT_2, exT_3, exT_4, exT_5]; exact h4)
    simp only [exT_0, exT_1, exT_2, exT_3, exT_4, exT_5] at hr
    omega
theorem right_top {R : Tb} {n : Int} (w : RightR R n) : Top R n := (rwt w).top
theorem right_last {R : Tb} {n : Int} (w : RightR R n) : R (n - 1) 4 = 0 := by
  have := w.last
  simp only [exT_0, exT_1, exT_2, exT_3, exT_4, exT_5] at this; exact this
theorem right_good {R : Tb} {n : Int} (w : RightR R n) : ∀ i, Opn R n i → good R n i := fun _ h => good_of (rwt w) h
theorem allR_closed {R : Tb} {n i : Int} (h : ¬ Opn R n i) : allR R n i = 0 := by
  unfold allR allK
  have : ∀ m, sumN (fun j => if Opn R n j ∧ i ∈ pthL R n j then R j 2 else 0) m = 0 := fun m => by
    induction m with
    | zero => rfl
    | succ m ih => simp only [sumN]; rw [ih, if_neg (fun x => h (pathF_opn R n _ _ x.2))]; rfl
  exact this _
theorem right_peak {R : Tb} {n : Int} (w : RightR R n) : ∀ r, 0 ≤ r → r < n → allR R n r ≤ R r 3 := fun r h0 h1 => by
  by_cases h4 : R r 4 = 0
  · have hr := w.rng r (exT_opn.2 ⟨h0, h1, h4⟩)
    simp only [exT_0, exT_1, exT_2, exT_3, exT_4, exT_5] at hr
    omega
  · have hr := w.cl r h0 h1 (by simp only [exT_0, exT_1, exT_2, exT_3, exT_4, exT_5]; exact h4)
    simp only [exT_0, exT_1, exT_2, exT_3, exT_4, exT_5] at hr
    omega
theorem right_of {R : Tb} {n : Int} (g : GivenR R n) (t : Top R n) (hl : R (n - 1) 4 = 0) (hr : RowsOk R n) (hg : ∀ i, Opn R n i → good R n i) (hp : ∀ r, Opn R n r → allR R n r ≤ R r 3) : RightR R n := by
  have w := wt_of t hg
  have wX : Wt (exT R n) n := (exT_shape R n).symm.wt w
  refine { toWt := wX, last := by simp only [exT_0, exT_1, exT_2, exT_3, exT_4, exT_5]; exact hl, cl := fun i h0 h1 h4 => ?_, rng := fun i hi => ?_, sums := fun i hi => ?_ }
  · simp only [exT_0, exT_1, exT_2, exT_3, exT_4, exT_5] at h4
    have := hr i h0 h1
    unfold RowOk at this
    rw [if_neg h4] at this
    simp only [exT_0, exT_1, exT_2, exT_3, exT_4, exT_5]; rw [allR_closed (fun x => h4 x.2.2)]
    have := g.2 i h0 h1
    omega
  · have ho := exT_opn.1 hi
    have h1 := hr i ho.1 ho.2.1
    unfold RowOk at h1
    rw [if_pos ho.2.2] at h1
    have h2 := hp i ho
    simp only [exT_0, exT_1, exT_2, exT_3, exT_4, exT_5]
    have h3 : 0 ≤ allR R n i := by
      unfold allR allK
      refine sumN_nonneg fun k hk => ?_
      split
      · exact (hr.own k (by omega) (by omega)).1
      · omega
    omega
  · have ho := exT_opn.1 hi
    unfold df kids
    simp only [exT_0, exT_1, exT_2, exT_3, exT_4, exT_5]; rw [allR_below w, below_kids w ho, show ((i.toNat : Nat) : Int) = i by have := ho.1; omega]
    have : sumN (fun k => if Opn (exT R n) n k ∧ R k 0 = i then allR R n k else 0) n.toNat = sumN (fun k => if Opn R n k ∧ R k 0 = i then below R n (fun k => R k 2) k else 0) n.toNat := by
      refine sumN_congr fun k _ => ?_
      rw [allR_below w]
      by_cases hc : Opn R n k ∧ R k 0 = i
      · rw [if_pos hc, if_pos ⟨exT_opn.2 hc.1, hc.2⟩]
      · rw [if_neg hc, if_neg (fun x => hc ⟨exT_opn.1 x.1, x.2⟩)]
    rw [this]
    omega

/-! ### Sums -/

/-- To each node on their paths but themselves, what the nodes up to k have. -/
noncomputable def smT (S : Tb) (n k : Int) : Tb := fun r c => if c = 5 then S r 5 + sumN (fun j => if Opn S n j ∧ (j : Int) ≠ r ∧ r ∈ path S n j then S j 2 else 0) k.toNat else S r c
/-- On the way up from node i, before q. -/
def SmAt (X T : Tb) (n i q : Int) : Prop := (∀ r ∈ path T n q, r ∈ path T n i) ∧ ∀ r c, X r c = if c = 5 ∧ r ∈ path T n i ∧ r ∉ path T n q ∧ r ≠ i then T r 5 + T i 2 else T r c

theorem smT_ne (S : Tb) (n k r : Int) {c : Nat} (h : c ≠ 5) : smT S n k r c = S r c := by simp [smT, h]
theorem smT_shape (S : Tb) (n k : Int) : Shape (smT S n k) S := fun r => ⟨smT_ne _ _ _ _ (by omega), smT_ne _ _ _ _ (by omega)⟩
theorem smT_0 (S : Tb) (n : Int) : smT S n 0 = S := by
  funext r c
  unfold smT
  split
  · rename_i h; subst h; simp [sumN]
  · rfl
theorem SmAt.first (T : Tb) (n i : Int) : SmAt T T n i i := ⟨fun _ h => h, fun r c => by rw [if_neg (fun x => x.2.2.1 x.2.1)]⟩
theorem SmAt.shape {X T : Tb} {n i q : Int} (h : SmAt X T n i q) : Shape X T := fun r => ⟨by rw [h.2, if_neg (fun x => by omega)], by rw [h.2, if_neg (fun x => by omega)]⟩
theorem SmAt.skip {X T : Tb} {n i : Int} (w : Wt T n) (h : SmAt X T n i i) (hi : Opn T n i) : SmAt X T n i (T i 0) := by
  have hp := path_open w hi
  refine ⟨fun r hr => by rw [hp]; exact List.mem_cons_of_mem _ hr, fun r c => ?_⟩
  rw [h.2, if_neg (fun x => x.2.2.1 x.2.1), if_neg]
  rintro ⟨_, h1, h2, h3⟩
  rw [hp] at h1
  rcases List.mem_cons.1 h1 with e | e
  · exact h3 e
  · exact h2 e
theorem SmAt.next {X T : Tb} {n i q : Int} (w : Wt T n) (h : SmAt X T n i q) (hq : Opn T n q) (hne : q ≠ i) : SmAt (tupd X q 5 (X q 5 + X i 2)) T n i (T q 0) := by
  have hp := path_open w hq
  have hqi : q ∈ path T n i := h.1 q (by rw [hp]; exact List.mem_cons_self)
  have hX2 : X i 2 = T i 2 := by rw [h.2, if_neg (fun x => by omega)]
  have hX5 : X q 5 = T q 5 := by rw [h.2, if_neg (fun x => x.2.2.1 (by rw [hp]; exact List.mem_cons_self))]
  refine ⟨fun r hr => h.1 r (by rw [hp]; exact List.mem_cons_of_mem _ hr), fun r c => ?_⟩
  unfold tupd
  by_cases e : r = q ∧ c = 5
  · rw [if_pos e, if_pos ⟨e.2, e.1 ▸ hqi, by rw [e.1]; exact not_mem_par w hq, by rw [e.1]; exact hne⟩, hX5, hX2, e.1]
  · rw [if_neg e, h.2]
    have : (c = 5 ∧ r ∈ path T n i ∧ r ∉ path T n q ∧ r ≠ i) ↔ (c = 5 ∧ r ∈ path T n i ∧ r ∉ path T n (T q 0) ∧ r ≠ i) := by
      constructor
      · rintro ⟨a, b, c', d⟩; exact ⟨a, b, fun x => c' (by rw [hp]; exact List.mem_cons_of_mem _ x), d⟩
      · rintro ⟨a, b, c', d⟩
        refine ⟨a, b, fun x => ?_, d⟩
        rw [hp] at x
        rcases List.mem_cons.1 x with y | y
        · exact e ⟨y, a⟩
        · exact c' y
    by_cases hc : c = 5 ∧ r ∈ path T n i ∧ r ∉ path T n q ∧ r ≠ i
    · rw [if_pos hc, if_pos (this.1 hc)]
    · rw [if_neg hc, if_neg (fun x => hc (this.2 x))]
theorem SmAt.last {X S : Tb} {n k q : Int} (w : Wt S n) (h : SmAt X (smT S n k) n k q) (hk : 0 ≤ k) (hq : ¬ Opn S n q) : X = smT S n (k + 1) := by
  have hs := smT_shape S n k
  funext r c
  rw [h.2, hs.path w, hs.path w, path_not hq, smT_ne S n k k (c := 2) (by omega)]
  by_cases hc : c = 5
  · subst hc
    have e : smT S n (k + 1) r 5 = smT S n k r 5 + (if Opn S n k ∧ k ≠ r ∧ r ∈ path S n k then S k 2 else 0) := by
      unfold smT
      rw [if_pos rfl, if_pos rfl, show (k + 1).toNat = k.toNat + 1 by omega]
      simp only [sumN, show ((k.toNat : Nat) : Int) = k by omega]
      omega
    rw [e]
    by_cases hm : r ∈ path S n k ∧ r ≠ k
    · have hok : Opn S n k := by
        by_cases ho : Opn S n k
        · exact ho
        · rw [path_not ho] at hm; cases hm.1
      rw [if_pos ⟨rfl, hm.1, by simp, hm.2⟩, if_pos ⟨hok, fun e => hm.2 e.symm, hm.1⟩]
    · rw [if_neg (fun x => hm ⟨x.2.1, x.2.2.2⟩), if_neg (fun x => hm ⟨x.2.2, fun e => x.2.1 e.symm⟩)]
      omega
  · rw [if_neg (fun x => hc x.1), smT_ne _ _ _ _ hc, smT_ne _ _ _ _ hc]
/-- What the sums are, behind all. -/
theorem smT_all {S R : Tb} {n r : Int} (w : Wt S n) (hs : Sh S R n) (h5 : ∀ r, 0 ≤ r → r < n → S r 5 = if Opn S n r then S r 2 else 0) (h0 : 0 ≤ r) (h1 : r < n) : smT S n n r 5 = allR R n r := by
  have hR : allR R n r = allR S n r := (hs.all r (by have := w.n1; omega)).symm
  rw [hR]
  unfold smT
  rw [if_pos rfl, h5 r h0 h1]
  by_cases ho : Opn S n r
  · rw [if_pos ho]
    unfold allR allK
    have : sumN (fun j => if Opn S n j ∧ r ∈ pthL S n j then S j 2 else 0) n.toNat = sumN (fun j => if Opn S n j ∧ (j : Int) ≠ r ∧ r ∈ path S n j then S j 2 else 0) n.toNat + (S r 2 - 0) := by
      have e : ((r.toNat : Nat) : Int) = r := by omega
      rw [sumN_at (f := fun j => if Opn S n j ∧ r ∈ pthL S n j then S j 2 else 0) (g := fun j => if Opn S n j ∧ (j : Int) ≠ r ∧ r ∈ path S n j then S j 2 else 0) (j := r.toNat) (by omega) fun k _ hk => ?_]
      · simp only [e]
        rw [if_pos ⟨ho, by rw [pthL_path w, path_open w ho]; exact List.mem_cons_self⟩, if_neg (fun x => x.2.1 rfl)]
      · have hkr : (k : Int) ≠ r := by omega
        simp only [pthL_path w]
        by_cases hc : Opn S n k ∧ r ∈ path S n k
        · rw [if_pos hc, if_pos ⟨hc.1, hkr, hc.2⟩]
        · rw [if_neg hc, if_neg (fun x => hc ⟨x.1, x.2.2⟩)]
    omega
  · rw [if_neg ho, allR_closed ho]
    have : ∀ m, sumN (fun j => if Opn S n j ∧ (j : Int) ≠ r ∧ r ∈ path S n j then S j 2 else 0) m = 0 := fun m => by
      induction m with
      | zero => rfl
      | succ m ih => simp only [sumN]; rw [ih, if_neg (fun x => ho (mem_path w _ x.2.2).1)]; rfl
    rw [this]; rfl
theorem sumN_rng {f : Nat → Int} {m : Nat} (h : ∀ k, k < m → 0 ≤ f k ∧ f k ≤ 4096) : 0 ≤ sumN f m ∧ sumN f m ≤ 4096 * m := by
  refine ⟨sumN_nonneg fun k hk => (h k hk).1, ?_⟩
  have := sumN_le (f := f) (g := fun _ => 4096) (m := m) fun k hk => (h k hk).2
  rw [sumN_const] at this; exact this
theorem smT_rng {S : Tb} {n k r : Int} (ho : OwnRng S n) (hk : 0 ≤ k) (hkn : k ≤ n) : S r 5 ≤ smT S n k r 5 ∧ smT S n k r 5 ≤ S r 5 + 4096 * k := by
  unfold smT
  rw [if_pos rfl]
  have := sumN_rng (f := fun j => if Opn S n j ∧ (j : Int) ≠ r ∧ r ∈ path S n j then S j 2 else 0) (m := k.toNat) fun j hj => by
    by_cases hc : Opn S n j ∧ (j : Int) ≠ r ∧ r ∈ path S n j
    · simp only [if_pos hc]; exact ho j (by omega) (by omega)
    · simp only [if_neg hc]; omega
  rw [show ((k.toNat : Nat) : Int) = k by omega] at this
  omega
end Go.Proofs.Ytafipmoglaepcaa.Ac
