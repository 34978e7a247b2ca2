/-
  Trees of budgets as tables: paths, sums, and what adding along a path does to them. Plain Lean; no program is spoken of. Conditions: none.
-/
namespace Go.Proofs.Ytafipmoglaepcaa.Ac

abbrev Tb := Int → Nat → Int

def Opn (T : Tb) (n i : Int) : Prop := 0 ≤ i ∧ i < n ∧ T i 4 = 0
instance (T : Tb) (n i : Int) : Decidable (Opn T n i) := inferInstanceAs (Decidable (0 ≤ i ∧ i < n ∧ T i 4 = 0))

/-- A tree: the root is open, each open node but the root lies below an open one, and there are no rings. -/
structure Wt (T : Tb) (n : Int) : Prop where
  n1 : 1 ≤ n
  n64 : n ≤ 64
  root : T 0 4 = 0
  rootp : T 0 0 = -1
  par : ∀ i, Opn T n i → i ≠ 0 → Opn T n (T i 0)
  rank : ∃ r : Int → Nat, ∀ i, Opn T n i → i ≠ 0 → r (T i 0) < r i

open Classical in
noncomputable def rk (T : Tb) (n : Int) : Int → Nat := if h : ∃ r : Int → Nat, ∀ i, Opn T n i → i ≠ 0 → r (T i 0) < r i then Classical.choose h else fun _ => 0
noncomputable def meas (T : Tb) (n i : Int) : Nat := if Opn T n i then rk T n i + 1 else 0

theorem rk_lt {T : Tb} {n : Int} (h : Wt T n) {i : Int} (hi : Opn T n i) (h0 : i ≠ 0) : rk T n (T i 0) < rk T n i := by
  have := Classical.choose_spec h.rank
  unfold rk
  rw [dif_pos h.rank]
  exact this i hi h0
theorem not_opn_neg {T : Tb} {n : Int} : ¬ Opn T n (-1) := fun h => by have := h.1; omega
theorem meas_lt {T : Tb} {n : Int} (h : Wt T n) {i : Int} (hi : Opn T n i) : meas T n (T i 0) < meas T n i := by
  unfold meas
  rw [if_pos hi]
  by_cases h0 : i = 0
  · subst h0; rw [h.rootp, if_neg not_opn_neg]; omega
  · rw [if_pos (h.par i hi h0)]; have := rk_lt h hi h0; omega

def pathF (T : Tb) (n : Int) : Nat → Int → List Int
  | 0, _ => []
  | f + 1, i => if Opn T n i then i :: pathF T n f (T i 0) else []
noncomputable def path (T : Tb) (n i : Int) : List Int := pathF T n (meas T n i) i

theorem path_not {T : Tb} {n i : Int} (h : ¬ Opn T n i) : path T n i = [] := by
  simp [path, meas, h, pathF]
theorem pathF_enough {T : Tb} {n : Int} (h : Wt T n) : ∀ {f : Nat} {i : Int}, meas T n i ≤ f → pathF T n f i = path T n i := by
  intro f
  induction f with
  | zero =>
    intro i hi
    by_cases ho : Opn T n i
    · simp [meas, ho] at hi
    · rw [path_not ho]; rfl
  | succ f ih =>
    intro i hi
    by_cases ho : Opn T n i
    · have hlt := meas_lt h ho
      simp only [pathF, if_pos ho]
      have hp : path T n i = i :: pathF T n (rk T n i) (T i 0) := by simp [path, meas, ho, pathF]
      rw [hp, ih (by omega)]
      congr 1
      have hm : meas T n i = rk T n i + 1 := by simp [meas, ho]
      have : meas T n (T i 0) ≤ rk T n i := by omega
      -- both are enough
      have key : ∀ {a b : Nat} {j : Int}, meas T n j ≤ a → meas T n j ≤ b → pathF T n a j = pathF T n b j := by
        intro a
        induction a with
        | zero =>
          intro b j h1 _
          have : ¬ Opn T n j := fun ho => by simp [meas, ho] at h1
          cases b <;> simp [pathF, this]
        | succ a iha =>
          intro b j h1 h2
          by_cases hj : Opn T n j
          · have hl := meas_lt h hj
            cases b with
            | zero => simp [meas, hj] at h2
            | succ b => simp only [pathF, if_pos hj]; rw [iha (b := b) (by omega) (by omega)]
          · cases b <;> simp [pathF, hj]
      exact key (Nat.le_refl _) this
    · rw [path_not ho]; simp [pathF, ho]
theorem path_open {T : Tb} {n : Int} (h : Wt T n) {i : Int} (hi : Opn T n i) : path T n i = i :: path T n (T i 0) := by
  have hm : meas T n i = rk T n i + 1 := by simp [meas, hi]
  have hl := meas_lt h hi
  have : path T n i = i :: pathF T n (rk T n i) (T i 0) := by simp [path, meas, hi, pathF]
  rw [this, pathF_enough h (by omega)]

/-- From the root to the leaves. -/
theorem up {T : Tb} {n : Int} (h : Wt T n) {P : Int → Prop} (h0 : ∀ i, ¬ Opn T n i → P i) (h1 : ∀ i, Opn T n i → P (T i 0) → P i) : ∀ i, P i := by
  have : ∀ m i, meas T n i ≤ m → P i := by
    intro m
    induction m with
    | zero => intro i hi; exact h0 i fun ho => by simp [meas, ho] at hi
    | succ m ih =>
      intro i hi
      by_cases ho : Opn T n i
      · exact h1 i ho (ih _ (by have := meas_lt h ho; omega))
      · exact h0 i ho
  exact fun i => this _ i (Nat.le_refl _)

theorem mem_path {T : Tb} {n : Int} (h : Wt T n) {j : Int} : ∀ i, j ∈ path T n i → Opn T n j ∧ meas T n j ≤ meas T n i := by
  refine up h (fun i hi hj => ?_) (fun i hi ih hj => ?_)
  · rw [path_not hi] at hj; cases hj
  · rw [path_open h hi] at hj
    rcases List.mem_cons.1 hj with rfl | hj
    · exact ⟨hi, Nat.le_refl _⟩
    · have := ih hj
      exact ⟨this.1, by have := meas_lt h hi; omega⟩
theorem not_mem_par {T : Tb} {n : Int} (h : Wt T n) {i : Int} (hi : Opn T n i) : i ∉ path T n (T i 0) := fun hm => by
  have := (mem_path h _ hm).2
  have := meas_lt h hi
  omega
theorem path_nodup {T : Tb} {n : Int} (h : Wt T n) : ∀ i, (path T n i).Nodup := by
  refine up h (fun i hi => ?_) (fun i hi ih => ?_)
  · rw [path_not hi]; exact List.nodup_nil
  · rw [path_open h hi]; exact List.nodup_cons.2 ⟨not_mem_par h hi, ih⟩
theorem path_trans {T : Tb} {n : Int} (h : Wt T n) {j k : Int} (hk : k ∈ path T n j) : ∀ i, j ∈ path T n i → k ∈ path T n i := by
  refine up h (fun i hi hj => ?_) (fun i hi ih hj => ?_)
  · rw [path_not hi] at hj; cases hj
  · rw [path_open h hi] at hj ⊢
    rcases List.mem_cons.1 hj with rfl | hj
    · rw [path_open h hi] at hk; exact hk
    · exact List.mem_cons_of_mem _ (ih hj)
theorem path_root {T : Tb} {n : Int} (h : Wt T n) : ∀ i, Opn T n i → 0 ∈ path T n i := by
  refine up h (fun i hi ho => (hi ho).elim) (fun i hi ih _ => ?_)
  rw [path_open h hi]
  by_cases h0 : i = 0
  · subst h0; exact List.mem_cons_self
  · exact List.mem_cons_of_mem _ (ih (h.par i hi h0))

/-- Numbers below m, each once: at most m. -/
theorem nodup_len : ∀ (m : Nat) (l : List Int), l.Nodup → (∀ x ∈ l, 0 ≤ x ∧ x < m) → l.length ≤ m
  | 0, l, _, hb => by
    cases l with
    | nil => simp
    | cons x l => have := hb x List.mem_cons_self; omega
  | m + 1, l, hn, hb => by
    by_cases hm : (m : Int) ∈ l
    · have h1 := nodup_len m (l.erase (m : Int)) (hn.erase _) fun x hx => by
        have hx' := List.mem_of_mem_erase hx
        have := hb x hx'
        have hne : x ≠ (m : Int) := fun e => by subst e; exact (List.Nodup.not_mem_erase hn) hx
        omega
      rw [List.length_erase_of_mem hm] at h1
      omega
    · have := nodup_len m l hn fun x hx => by
        have h1 := hb x hx
        have hne : x ≠ (m : Int) := fun e => hm (e ▸ hx)
        omega
      omega
theorem path_len {T : Tb} {n : Int} (h : Wt T n) (i : Int) : (path T n i).length ≤ 64 := by
  refine nodup_len 64 _ (path_nodup h i) fun x hx => ?_
  have := (mem_path h i hx).1
  have h64 := h.n64
  exact ⟨this.1, by have := this.2.1; omega⟩

/-- The same tree, whatever else the tables hold. -/
def Shape (S T : Tb) : Prop := ∀ i, S i 0 = T i 0 ∧ S i 4 = T i 4
theorem Shape.refl (T : Tb) : Shape T T := fun _ => ⟨rfl, rfl⟩
theorem Shape.symm {S T : Tb} (h : Shape S T) : Shape T S := fun i => ⟨(h i).1.symm, (h i).2.symm⟩
theorem Shape.trans {S T U : Tb} (h : Shape S T) (k : Shape T U) : Shape S U := fun i => ⟨(h i).1.trans (k i).1, (h i).2.trans (k i).2⟩
theorem Shape.opn {S T : Tb} (h : Shape S T) {n i : Int} : Opn S n i ↔ Opn T n i := by unfold Opn; rw [(h i).2]
theorem Shape.wt {S T : Tb} (h : Shape S T) {n : Int} (w : Wt T n) : Wt S n where
  n1 := w.n1
  n64 := w.n64
  root := by rw [(h 0).2]; exact w.root
  rootp := by rw [(h 0).1]; exact w.rootp
  par := fun i hi h0 => by rw [(h i).1]; exact h.opn.2 (w.par i (h.opn.1 hi) h0)
  rank := by
    obtain ⟨r, hr⟩ := w.rank
    exact ⟨r, fun i hi h0 => by rw [(h i).1]; exact hr i (h.opn.1 hi) h0⟩
theorem Shape.path {S T : Tb} (h : Shape S T) {n : Int} (w : Wt T n) : ∀ i, path S n i = path T n i := by
  refine up w (fun i hi => ?_) (fun i hi ih => ?_)
  · rw [path_not hi, path_not (fun ho => hi (h.opn.1 ho))]
  · rw [path_open w hi, path_open (h.wt w) (h.opn.2 hi), (h i).1, ih]

/-! ### Sums -/

def sumN (f : Nat → Int) : Nat → Int
  | 0 => 0
  | k + 1 => sumN f k + f k
theorem sumN_congr {f g : Nat → Int} : ∀ {m : Nat}, (∀ k, k < m → f k = g k) → sumN f m = sumN g m
  | 0, _ => rfl
  | m + 1, h => by simp only [sumN]; rw [sumN_congr fun k hk => h k (by omega), h m (by omega)]
theorem sumN_at {f g : Nat → Int} {j : Nat} : ∀ {m : Nat}, j < m → (∀ k, k < m → k ≠ j → f k = g k) → sumN f m = sumN g m + (f j - g j)
  | 0, hj, _ => by omega
  | m + 1, hj, h => by
    simp only [sumN]
    by_cases e : j = m
    · subst e
      rw [sumN_congr (m := j) fun k hk => h k (by omega) (by omega)]; omega
    · rw [sumN_at (m := m) (by omega) fun k hk hne => h k (by omega) hne, h m (by omega) (fun e' => e e'.symm)]; omega
theorem sumN_nonneg {f : Nat → Int} : ∀ {m : Nat}, (∀ k, k < m → 0 ≤ f k) → 0 ≤ sumN f m
  | 0, _ => by simp [sumN]
  | m + 1, h => by simp only [sumN]; have := sumN_nonneg (m := m) fun k hk => h k (by omega); have := h m (by omega); omega
theorem sumN_ge {f : Nat → Int} {j : Nat} : ∀ {m : Nat}, j < m → (∀ k, k < m → 0 ≤ f k) → f j ≤ sumN f m
  | 0, hj, _ => by omega
  | m + 1, hj, h => by
    simp only [sumN]
    by_cases e : j = m
    · subst e; have := sumN_nonneg (m := j) fun k hk => h k (by omega); omega
    · have := sumN_ge (m := m) (j := j) (by omega) fun k hk => h k (by omega)
      have := h m (by omega)
      omega

/-- What the children of a node have. -/
def kids (T : Tb) (n i : Int) : Int := sumN (fun k => if Opn T n k ∧ T k 0 = i then T k 5 else 0) n.toNat
/-- What a node has too much. -/
def df (T : Tb) (n i : Int) : Int := T i 5 - T i 2 - kids T n i

/-- Tables of one shape that part at most at row j, in what it has. -/
theorem kids_at {S T : Tb} {n j : Int} (hs : Shape S T) (hj : Opn T n j) (h : ∀ i, i ≠ j → S i 5 = T i 5) (r : Int) : kids S n r = kids T n r + (if T j 0 = r then S j 5 - T j 5 else 0) := by
  have hj0 := hj.1
  have hjn := hj.2.1
  unfold kids
  rw [sumN_at (j := j.toNat) (g := fun k => if Opn T n k ∧ T k 0 = r then T k 5 else 0) (by omega)]
  · have e : ((j.toNat : Nat) : Int) = j := by omega
    simp only [e]
    by_cases hp : T j 0 = r
    · rw [if_pos ⟨hs.opn.2 hj, by rw [(hs j).1]; exact hp⟩, if_pos ⟨hj, hp⟩, if_pos hp]
    · rw [if_neg (fun x => hp (by rw [← (hs j).1]; exact x.2)), if_neg (fun x => hp x.2), if_neg hp]; simp
  · intro k _ hne
    have hk : (k : Int) ≠ j := fun e => hne (by omega)
    by_cases hc : Opn T n k ∧ T k 0 = r
    · rw [if_pos hc, if_pos ⟨hs.opn.2 hc.1, by rw [(hs k).1]; exact hc.2⟩, h _ hk]
    · rw [if_neg hc, if_neg (fun x => hc ⟨hs.opn.1 x.1, by rw [← (hs k).1]; exact x.2⟩)]

theorem kids_congr {S T : Tb} {n : Int} (hs : Shape S T) (h : ∀ i, S i 5 = T i 5) (r : Int) : kids S n r = kids T n r := by
  unfold kids
  refine sumN_congr fun k _ => ?_
  by_cases hc : Opn T n k ∧ T k 0 = r
  · rw [if_pos hc, if_pos ⟨hs.opn.2 hc.1, by rw [(hs k).1]; exact hc.2⟩, h]
  · rw [if_neg hc, if_neg (fun x => hc ⟨hs.opn.1 x.1, by rw [← (hs k).1]; exact x.2⟩)]

/-- S is T, with d more along i's path; what else S holds is not said. -/
def Along (S T : Tb) (n i d : Int) : Prop := Shape S T ∧ (∀ r, S r 2 = T r 2) ∧ (∀ r, S r 5 = T r 5 + (if r ∈ path T n i then d else 0))

/-- Adding along a path moves what is too much to the path's first node. -/
theorem along_df {T : Tb} {n d : Int} (w : Wt T n) : ∀ i, ∀ S, Along S T n i d → ∀ r, Opn T n r → df S n r = df T n r + (if Opn T n i ∧ r = i then d else 0) := by
  refine up w (fun i hi S hS r _ => ?_) (fun i hi ih S hS r hr => ?_)
  · have h5 : ∀ r, S r 5 = T r 5 := fun r => by rw [hS.2.2 r, path_not hi]; simp
    rw [if_neg (fun x => hi x.1)]
    unfold df
    rw [kids_congr hS.1 h5, h5, hS.2.1]; omega
  · -- without i itself
    let S' : Tb := fun r c => if r = i ∧ c = 5 then T i 5 else S r c
    have hsh : Shape S' T := fun r => by
      have := hS.1 r
      simp only [S']
      constructor
      · rw [if_neg (by omega)]; exact this.1
      · rw [if_neg (by omega)]; exact this.2
    have hni := not_mem_par w hi
    have hA : Along S' T n (T i 0) d := by
      refine ⟨hsh, fun r => ?_, fun r => ?_⟩
      · simp only [S']; rw [if_neg (by omega)]; exact hS.2.1 r
      · simp only [S']
        by_cases e : r = i
        · subst e; rw [if_pos (by simp), if_neg hni]; omega
        · rw [if_neg (fun x => e x.1), hS.2.2 r, path_open w hi]
          by_cases hm : r ∈ path T n (T i 0)
          · rw [if_pos hm, if_pos (List.mem_cons_of_mem _ hm)]
          · rw [if_neg hm, if_neg (fun x => by rcases List.mem_cons.1 x with x | x; exact e x; exact hm x)]
    have h1 := ih S' hA r hr
    have h5i : S i 5 = T i 5 + d := by rw [hS.2.2 i, path_open w hi, if_pos List.mem_cons_self]
    have hk := kids_at (S := S) (T := S') (n := n) (j := i) (hS.1.trans hsh.symm) (hsh.opn.2 hi) (fun k hk => by simp only [S']; rw [if_neg (fun x => hk x.1)]) r
    have e5 : S' i 5 = T i 5 := by simp only [S']; rw [if_pos (by simp)]
    have e0 : S' i 0 = T i 0 := (hsh i).1
    rw [e5, e0] at hk
    unfold df at h1 ⊢
    have e2 : S' r 2 = S r 2 := by simp only [S']; rw [if_neg (by omega)]
    rw [e2] at h1
    by_cases e : r = i
    · subst e
      rw [e5] at h1
      have hne : ¬ (T r 0 = r) := fun x => by have := meas_lt w hi; rw [x] at this; omega
      rw [if_neg hne] at hk
      rw [if_neg (fun x => hne x.2.symm)] at h1
      rw [if_pos ⟨hi, rfl⟩]
      omega
    · have e5r : S' r 5 = S r 5 := by simp only [S']; rw [if_neg (fun x => e x.1)]
      rw [e5r] at h1
      rw [if_neg (fun x => e x.2)]
      by_cases hp : T i 0 = r
      · rw [if_pos ⟨hp ▸ hr, hp.symm⟩] at h1
        rw [if_pos hp] at hk
        omega
      · rw [if_neg (fun x => hp x.2.symm)] at h1
        rw [if_neg hp] at hk
        omega

/-! ### Adding along a path, peaks raised -/

noncomputable def addP (T : Tb) (n i d : Int) : Tb := fun r c =>
  if r ∈ path T n i then (if c = 5 then T r 5 + d else if c = 3 then max (T r 3) (T r 5 + d) else T r c) else T r c
/-- No sum along the path is too great. -/
def AddFits (T : Tb) (n i d : Int) : Prop := ∀ r ∈ path T n i, -9223372036854775808 ≤ T r 5 + d ∧ T r 5 + d ≤ 9223372036854775807
/-- On the way: what is still to come is as it was, the rest is done. -/
def AddAt (S T : Tb) (n i d q : Int) : Prop :=
  (∀ r ∈ path T n q, r ∈ path T n i ∧ ∀ c, S r c = T r c) ∧ ∀ r, r ∉ path T n q → ∀ c, S r c = addP T n i d r c

theorem addP_shape (T : Tb) (n i d : Int) : Shape (addP T n i d) T := fun r => by
  unfold addP
  by_cases h : r ∈ path T n i <;> simp [h]
theorem AddAt.first {T : Tb} {n i d : Int} : AddAt T T n i d i :=
  ⟨fun _ hr => ⟨hr, fun _ => rfl⟩, fun r hr c => by unfold addP; rw [if_neg hr]⟩
theorem AddAt.shape {S T : Tb} {n i d q : Int} (h : AddAt S T n i d q) : Shape S T := fun r => by
  by_cases hr : r ∈ path T n q
  · exact ⟨(h.1 r hr).2 0, (h.1 r hr).2 4⟩
  · rw [h.2 r hr 0, h.2 r hr 4]; exact addP_shape T n i d r
theorem AddAt.last {S T : Tb} {n i d q : Int} (h : AddAt S T n i d q) (hq : ¬ Opn T n q) : S = addP T n i d := by
  funext r c
  exact h.2 r (by rw [path_not hq]; exact List.not_mem_nil) c
theorem AddAt.next {S S' T : Tb} {n i d q : Int} (w : Wt T n) (h : AddAt S T n i d q) (hq : Opn T n q)
    (hS : ∀ r c, S' r c = if r = q then (if c = 5 then S q 5 + d else if c = 3 then max (S q 3) (S q 5 + d) else S q c) else S r c) : AddAt S' T n i d (T q 0) := by
  have hp := path_open w hq
  refine ⟨fun r hr => ?_, fun r hr c => ?_⟩
  · have hm : r ∈ path T n q := by rw [hp]; exact List.mem_cons_of_mem _ hr
    have hne : r ≠ q := fun e => not_mem_par w hq (e ▸ hr)
    refine ⟨(h.1 r hm).1, fun c => ?_⟩
    rw [hS, if_neg hne]; exact (h.1 r hm).2 c
  · rw [hS]
    by_cases e : r = q
    · subst e
      have hm : r ∈ path T n r := by rw [hp]; exact List.mem_cons_self
      rw [if_pos rfl]
      unfold addP
      rw [if_pos (h.1 r hm).1]
      simp only [(h.1 r hm).2]
    · rw [if_neg e]
      exact h.2 r (by rw [hp]; exact fun x => by rcases List.mem_cons.1 x with x | x; exact e x; exact hr x) c
end Go.Proofs.Ytafipmoglaepcaa.Ac
