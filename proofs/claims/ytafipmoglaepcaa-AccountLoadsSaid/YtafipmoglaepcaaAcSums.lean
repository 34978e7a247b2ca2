/-
  Sums of weights below a node; how many nodes lie below one. Plain Lean. Conditions: none.
-/
import Derived.Test.YtafipmoglaepcaaAcWf2
namespace Go.Proofs.Ytafipmoglaepcaa.Ac
/-! ### Sums of weights below a node -/

theorem sumN_add {f g : Nat → Int} : ∀ m, sumN (fun k => f k + g k) m = sumN f m + sumN g m
  | 0 => rfl
  | m + 1 => by simp only [sumN, sumN_add m]; omega
theorem sumN_swap (f : Nat → Nat → Int) (a : Nat) : ∀ b, sumN (fun k => sumN (fun j => f k j) a) b = sumN (fun j => sumN (fun k => f k j) b) a
  | 0 => by
    simp only [sumN]
    exact (sumN_zero fun _ _ => rfl).symm
  | b + 1 => by
    simp only [sumN]
    rw [sumN_swap f a b, ← sumN_add]
theorem sumN_mul {f : Nat → Int} {c : Int} : ∀ m, sumN (fun k => c * f k) m = c * sumN f m
  | 0 => by simp [sumN]
  | m + 1 => by simp only [sumN, sumN_mul m]; rw [Int.mul_add]
theorem sumN_one {j : Nat} {c : Int} {m : Nat} (h : j < m) : sumN (fun k => if k = j then c else 0) m = c := by
  rw [sumN_at (j := j) (g := fun _ => 0) h fun k _ hne => by simp only [if_neg hne], sumN_zero fun _ _ => rfl]; simp

/-- How many children of i lie on j's path: one, if j lies below i. -/
theorem kids_on {T : Tb} {n i : Int} (w : Wt T n) (hi : Opn T n i) : ∀ j, sumN (fun k => if Opn T n k ∧ T k 0 = i ∧ (k : Int) ∈ path T n j then 1 else 0) n.toNat = if i ∈ path T n j ∧ i ≠ j then 1 else 0 := by
  refine up w (fun j hj => ?_) (fun j hj ih => ?_)
  · rw [path_not hj, if_neg (fun x => by cases x.1)]
    exact sumN_zero fun k _ => by rw [if_neg (fun x => by cases x.2.2)]
  · have hj0 := hj.1
    have hjn := hj.2.1
    have ej : ((j.toNat : Nat) : Int) = j := by omega
    rw [sumN_at (j := j.toNat) (g := fun k => if Opn T n k ∧ T k 0 = i ∧ (k : Int) ∈ path T n (T j 0) then 1 else 0) (by omega)]
    · rw [ih]
      simp only [ej]
      have h1 : j ∈ path T n j := by rw [path_open w hj]; exact List.mem_cons_self
      have h2 := not_mem_par w hj
      rw [if_neg (c := Opn T n j ∧ T j 0 = i ∧ j ∈ path T n (T j 0)) (fun x => h2 x.2.2)]
      have hm : i ∈ path T n j ∧ i ≠ j ↔ i ∈ path T n (T j 0) := by
        rw [path_open w hj, List.mem_cons]
        constructor
        · rintro ⟨a | a, b⟩
          · exact (b a).elim
          · exact a
        · intro a; exact ⟨.inr a, fun e => h2 (e ▸ a)⟩
      by_cases e : T j 0 = i
      · have q : ¬ (i ∈ path T n (T j 0) ∧ i ≠ T j 0) := fun x => x.2 e.symm
        have q2 : Opn T n j ∧ T j 0 = i ∧ j ∈ path T n j := ⟨hj, e, h1⟩
        rw [if_neg q, if_pos q2, if_pos (hm.2 (by rw [e, path_open w hi]; exact List.mem_cons_self))]; rfl
      · rw [if_neg (c := Opn T n j ∧ T j 0 = i ∧ j ∈ path T n j) (fun x => e x.2.1)]
        by_cases hx : i ∈ path T n (T j 0)
        · rw [if_pos ⟨hx, fun y => e y.symm⟩, if_pos (hm.2 hx)]; rfl
        · rw [if_neg (fun y => hx y.1), if_neg (fun y => hx (hm.1 y))]; rfl
    · intro k _ hne
      have hk : (k : Int) ≠ j := fun e => hne (by omega)
      have : (k : Int) ∈ path T n j ↔ (k : Int) ∈ path T n (T j 0) := by
        rw [path_open w hj, List.mem_cons]
        exact ⟨fun h => h.resolve_left hk, .inr⟩
      simp only [this]

/-- What lies below a node, weighed: itself, and what lies below its children. -/
noncomputable def below (T : Tb) (n : Int) (W : Nat → Int) (i : Int) : Int := sumN (fun j => if Opn T n j ∧ i ∈ path T n j then W j else 0) n.toNat
theorem below_kids {T : Tb} {n i : Int} (w : Wt T n) (hi : Opn T n i) (W : Nat → Int) :
    below T n W i = W i.toNat + sumN (fun k => if Opn T n k ∧ T k 0 = i then below T n W k else 0) n.toNat := by
  have hi0 := hi.1
  have hin := hi.2.1
  have ei : ((i.toNat : Nat) : Int) = i := by omega
  have h1 : sumN (fun k => if Opn T n k ∧ T k 0 = i then below T n W k else 0) n.toNat = sumN (fun j => (if Opn T n j then W j else 0) * (if i ∈ path T n j ∧ i ≠ j then 1 else 0)) n.toNat := by
    have : ∀ k : Nat, (if Opn T n k ∧ T k 0 = i then below T n W k else 0) = sumN (fun j => (if Opn T n j then W j else 0) * (if Opn T n k ∧ T k 0 = i ∧ (k : Int) ∈ path T n j then 1 else 0)) n.toNat := fun k => by
      by_cases hc : Opn T n k ∧ T k 0 = i
      · rw [if_pos hc]
        unfold below
        refine sumN_congr fun j _ => ?_
        by_cases hj : Opn T n j
        · by_cases hp : (k : Int) ∈ path T n j
          · rw [if_pos ⟨hj, hp⟩, if_pos hj, if_pos ⟨hc.1, hc.2, hp⟩]; omega
          · rw [if_neg (fun x => hp x.2), if_neg (c := Opn T n k ∧ T k 0 = i ∧ (k : Int) ∈ path T n j) (fun x => hp x.2.2)]; omega
        · rw [if_neg (fun x => hj x.1), if_neg hj]; omega
      · rw [if_neg hc]
        exact (sumN_zero fun j _ => by rw [if_neg (c := Opn T n k ∧ T k 0 = i ∧ (k : Int) ∈ path T n j) (fun x => hc ⟨x.1, x.2.1⟩)]; omega).symm
    rw [sumN_congr fun k _ => this k, sumN_swap]
    refine sumN_congr fun j _ => ?_
    rw [sumN_mul, kids_on w hi]
  rw [h1]
  unfold below
  have : ∀ j : Nat, (if Opn T n j ∧ i ∈ path T n j then W j else 0) = (if j = i.toNat then W i.toNat else 0) + (if Opn T n j then W j else 0) * (if i ∈ path T n j ∧ i ≠ j then 1 else 0) := fun j => by
    by_cases e : j = i.toNat
    · have ej : (j : Int) = i := by omega
      have hm : i ∈ path T n i := by rw [path_open w hi]; exact List.mem_cons_self
      rw [if_pos e, ej, if_pos ⟨hi, hm⟩, if_neg (c := i ∈ path T n i ∧ i ≠ i) (fun x => x.2 rfl), e]; omega
    · have ej : i ≠ (j : Int) := fun x => e (by omega)
      rw [if_neg e]
      by_cases hj : Opn T n j
      · by_cases hp : i ∈ path T n j
        · rw [if_pos ⟨hj, hp⟩, if_pos hj, if_pos ⟨hp, ej⟩]; omega
        · rw [if_neg (fun x => hp x.2), if_neg (c := i ∈ path T n j ∧ i ≠ (j : Int)) (fun x => hp x.1)]; omega
      · rw [if_neg (fun x => hj x.1), if_neg hj]; omega
  rw [sumN_congr fun j _ => this j, sumN_add, sumN_one (by omega)]

theorem size_below {T : Tb} {n i : Int} : size T n i = below T n (fun _ => 1) i := rfl
theorem size_part {T : Tb} {n i : Int} (w : Wt T n) (hi : Opn T n i) : part T n i n = size T n i := by
  rw [size_below, below_kids w hi, part]
  congr 1
  refine sumN_congr fun k _ => ?_
  by_cases hc : Opn T n k ∧ T k 0 = i
  · have hk : 0 < (k : Int) := by
      by_cases e : (k : Int) = 0
      · rw [e, w.rootp] at hc; have := hi.1; omega
      · omega
    rw [if_pos hc, if_pos ⟨hc.1, hk, hc.2⟩]; rfl
  · rw [if_neg hc, if_neg (fun x => hc ⟨x.1, x.2.2⟩)]
theorem sumN_le {f g : Nat → Int} : ∀ {m : Nat}, (∀ k, k < m → f k ≤ g k) → sumN f m ≤ sumN g m
  | 0, _ => Int.le_refl _
  | m + 1, h => by simp only [sumN]; have := sumN_le (m := m) fun k hk => h k (by omega); have := h m (by omega); omega
theorem sumN_const (c : Int) : ∀ m, sumN (fun _ => c) m = c * m
  | 0 => by simp [sumN]
  | m + 1 => by simp only [sumN, sumN_const c m]; rw [Int.natCast_add, Int.mul_add]; omega
theorem size_le {T : Tb} {n i : Int} (w : Wt T n) : 0 ≤ size T n i ∧ size T n i ≤ 64 := by
  constructor
  · exact sumN_nonneg fun k _ => by split <;> omega
  · have h1 : size T n i ≤ sumN (fun _ => 1) n.toNat := sumN_le fun k _ => by split <;> omega
    rw [sumN_const] at h1
    have := w.n64
    omega
theorem part_step {T : Tb} {n i k : Int} (h : 0 ≤ k) : part T n i (k + 1) = part T n i k + (if Opn T n k ∧ 0 < k ∧ T k 0 = i then size T n k else 0) := by
  unfold part
  rw [show (k + 1).toNat = k.toNat + 1 by omega]
  simp only [sumN]
  rw [show ((k.toNat : Nat) : Int) = k by omega]; omega
theorem part_mono {T : Tb} {n i : Int} (w : Wt T n) : ∀ (m : Nat) (k : Int), 0 ≤ k → 1 ≤ part T n i k ∧ part T n i k ≤ part T n i (k + m)
  | 0, k, h => by
    refine ⟨?_, by simp⟩
    unfold part
    have := sumN_nonneg (f := fun j : Nat => if Opn T n j ∧ 0 < (j : Int) ∧ T j 0 = i then size T n j else 0) (m := k.toNat) fun j _ => by
      have := (size_le (i := (j : Int)) w).1
      split <;> omega
    omega
  | m + 1, k, h => by
    obtain ⟨h1, h2⟩ := part_mono w m k h
    have := part_step (T := T) (n := n) (i := i) (k := k + m) (by omega)
    have h3 := (size_le (i := k + m) w).1
    rw [show k + ((m + 1 : Nat) : Int) = k + m + 1 by omega]
    refine ⟨h1, ?_⟩
    split at this <;> omega
theorem high_ok {T : Tb} {n i : Int} (w : Wt T n) : 0 ≤ high T n i ∧ high T n i ≤ 64 := by
  have := path_len w i
  unfold high; omega
theorem high_kid {T : Tb} {n k : Int} (w : Wt T n) (hk : Opn T n k) : high T n k + 1 = high T n (T k 0) := by
  unfold high
  rw [path_open w hk, List.length_cons]; omega
/-- A node has children where more than one node lies below it. -/
theorem size_kid {T : Tb} {n i : Int} (w : Wt T n) (hi : Opn T n i) : 1 < size T n i ↔ hasKid T n i := by
  rw [← size_part w hi]
  have hn := w.n1
  constructor
  · intro h
    refine Classical.not_not.1 fun hno => ?_
    have : part T n i n = 1 := by
      unfold part
      rw [sumN_zero fun k _ => if_neg fun x => hno ⟨k, x⟩]; rfl
    omega
  · rintro ⟨k, ko, k0, e⟩
    have h1 := part_mono (i := i) w k.toNat 0 (by omega)
    have h2 := part_mono (i := i) w (n - (k + 1)).toNat (k + 1) (by omega)
    have hs := part_step (T := T) (n := n) (i := i) (k := k) (by omega)
    have hkn := ko.2.1
    rw [if_pos ⟨ko, k0, e⟩] at hs
    rw [show k + 1 + ((n - (k + 1)).toNat : Int) = n by omega] at h2
    rw [show (0 : Int) + (k.toNat : Int) = k by omega] at h1
    have h3 : 1 ≤ size T n k := by
      rw [← size_part w ko]
      have h4 := part_mono (i := k) w n.toNat 0 (by omega)
      rw [show (0 : Int) + (n.toNat : Int) = n by omega] at h4
      omega
    omega
end Go.Proofs.Ytafipmoglaepcaa.Ac
