/-
  The list of what lies below a node. Plain Lean. Conditions: none.
-/
import Derived.Test.YtafipmoglaepcaaAcRef
namespace Go.Proofs.Ytafipmoglaepcaa.Ac
open Go.Sx (tupd tcat)

def catN (g : Nat → List Int) : Nat → List Int
  | 0 => []
  | k + 1 => catN g k ++ g k
def subF (T : Tb) (n : Int) : Nat → Int → List Int
  | 0, _ => []
  | f + 1, i => i :: catN (fun j => if Opn T n j ∧ 0 < (j : Int) ∧ T j 0 = i then subF T n f j else []) n.toNat
noncomputable def subL (T : Tb) (n i : Int) : List Int := if Opn T n i then subF T n (high T n i + 1).toNat i else []
noncomputable def partL (T : Tb) (n i k : Int) : List Int := i :: catN (fun j => if Opn T n j ∧ 0 < (j : Int) ∧ T j 0 = i then subL T n j else []) k.toNat
def IsL (L : Tb) (m : Int) : Prop := ∃ l : List Int, L = lstT l ∧ m = l.length

theorem catN_congr {g h : Nat → List Int} : ∀ {k : Nat}, (∀ j, j < k → g j = h j) → catN g k = catN h k
  | 0, _ => rfl
  | k + 1, e => by simp only [catN]; rw [catN_congr fun j hj => e j (by omega), e k (by omega)]
theorem catN_len (g : Nat → List Int) : ∀ k : Nat, ((catN g k).length : Int) = sumN (fun j => ((g j).length : Int)) k
  | 0 => rfl
  | k + 1 => by simp only [catN, sumN, List.length_append, Int.natCast_add, catN_len g k]
theorem sub_not {T : Tb} {n i : Int} (h : ¬ Opn T n i) : subL T n i = [] := if_neg h
theorem sub_part {T : Tb} {n i : Int} (w : Wt T n) (hi : Opn T n i) : subL T n i = partL T n i n := by
  have hh := high_ok (i := i) w
  unfold subL partL
  rw [if_pos hi, show (high T n i + 1).toNat = (high T n i).toNat + 1 by omega]
  simp only [subF]
  congr 1
  refine catN_congr fun j _ => ?_
  by_cases hk : Opn T n (j : Int) ∧ 0 < (j : Int) ∧ T j 0 = i
  · rw [if_pos hk, if_pos hk, subL, if_pos hk.1]
    have := high_kid w hk.1
    rw [hk.2.2] at this
    rw [this]
  · rw [if_neg hk, if_neg hk]
theorem partL_0 (T : Tb) (n i : Int) : partL T n i 0 = [i] := rfl
theorem partL_step {T : Tb} {n i k : Int} (h : 0 ≤ k) : partL T n i (k + 1) = partL T n i k ++ (if Opn T n k ∧ 0 < k ∧ T k 0 = i then subL T n k else []) := by
  unfold partL
  rw [show (k + 1).toNat = k.toNat + 1 by omega]
  simp only [catN, List.cons_append]
  rw [show ((k.toNat : Nat) : Int) = k by omega]
theorem sub_len {T : Tb} {n : Int} (w : Wt T n) : ∀ (m : Nat) (i : Int), Opn T n i → high T n i ≤ m → ((subL T n i).length : Int) = size T n i
  | m, i, hi, hm => by
    rw [sub_part w hi, ← size_part w hi]
    unfold partL part
    rw [List.length_cons, Int.natCast_add, catN_len]
    rw [Int.add_comm]
    congr 1
    refine sumN_congr fun j _ => ?_
    by_cases hk : Opn T n (j : Int) ∧ 0 < (j : Int) ∧ T j 0 = i
    · rw [if_pos hk, if_pos hk]
      have h2 := high_kid w hk.1
      rw [hk.2.2] at h2
      have h3 := high_ok (i := (j : Int)) w
      match m with
      | 0 => omega
      | m + 1 => exact sub_len w m j hk.1 (by omega)
    · rw [if_neg hk, if_neg hk]; rfl
theorem sub_length {T : Tb} {n i : Int} (w : Wt T n) (hi : Opn T n i) : ((subL T n i).length : Int) = size T n i := sub_len w 64 i hi (high_ok w).2
theorem sub_le {T : Tb} {n i : Int} (w : Wt T n) : ((subL T n i).length : Int) ≤ 64 := by
  by_cases hi : Opn T n i
  · rw [sub_length w hi]; exact (size_le w).2
  · rw [sub_not hi]; simp
theorem partL_len {T : Tb} {n i : Int} (w : Wt T n) (k : Int) : ((partL T n i k).length : Int) = part T n i k := by
  unfold partL part
  rw [List.length_cons, Int.natCast_add, catN_len, Int.add_comm]
  congr 1
  refine sumN_congr fun j _ => ?_
  by_cases hk : Opn T n (j : Int) ∧ 0 < (j : Int) ∧ T j 0 = i
  · rw [if_pos hk, if_pos hk]; exact sub_length w hk.1
  · rw [if_neg hk, if_neg hk]; rfl

theorem lst_one (x : Int) : tupd (fun _ _ => 0) 0 0 x = lstT [x] := by
  funext r c
  unfold tupd lstT
  by_cases h : r = 0 ∧ c = 0
  · obtain ⟨rfl, rfl⟩ := h; simp
  · rw [if_neg h]
    split
    · rename_i h2
      rw [List.getD_eq_getElem?_getD, List.getElem?_eq_none (by simp; omega)]; rfl
    · rfl
theorem lst_cat (a b : List Int) : tcat (lstT a) a.length (lstT b) = lstT (a ++ b) := by
  funext r c
  unfold tcat lstT
  by_cases h : r < a.length
  · rw [if_pos h]
    by_cases hr : 0 ≤ r ∧ c = 0
    · rw [if_pos hr, if_pos hr, List.getD_eq_getElem?_getD, List.getD_eq_getElem?_getD, List.getElem?_append_left (by omega)]
    · rw [if_neg hr, if_neg hr]
  · rw [if_neg h]
    by_cases hc : c = 0
    · rw [if_pos ⟨by omega, hc⟩, if_pos ⟨by omega, hc⟩, List.getD_eq_getElem?_getD, List.getD_eq_getElem?_getD, List.getElem?_append_right (by omega), show (r - (a.length : Int)).toNat = r.toNat - a.length by omega]
    · rw [if_neg fun x => hc x.2, if_neg fun x => hc x.2]
theorem lst_push (a : List Int) (x : Int) : tupd (lstT a) a.length 0 x = lstT (a ++ [x]) := by
  funext r c
  unfold tupd lstT
  by_cases h : r = a.length ∧ c = 0
  · obtain ⟨rfl, rfl⟩ := h
    rw [if_pos ⟨rfl, rfl⟩, if_pos ⟨by omega, rfl⟩, List.getD_eq_getElem?_getD, Int.toNat_natCast, List.getElem?_append_right (by omega)]; simp
  · rw [if_neg h]
    by_cases hr : 0 ≤ r ∧ c = 0
    · rw [if_pos hr, if_pos hr, List.getD_eq_getElem?_getD, List.getD_eq_getElem?_getD]
      by_cases h2 : r.toNat < a.length
      · rw [List.getElem?_append_left h2]
      · rw [List.getElem?_eq_none (by omega), List.getElem?_eq_none (by simp; omega)]
    · rw [if_neg hr, if_neg hr]
end Go.Proofs.Ytafipmoglaepcaa.Ac
