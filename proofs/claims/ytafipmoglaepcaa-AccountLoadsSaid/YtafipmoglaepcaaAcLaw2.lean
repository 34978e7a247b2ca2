/-
  A charge given back, a node moved and moved back. Plain Lean. Conditions: none.
-/
import Derived.Test.YtafipmoglaepcaaAcLaw
namespace Go.Proofs.Ytafipmoglaepcaa.Ac
open Go.Sx (tupd)

/-- The columns that a state shows, but that peaks may be higher. -/
def ButCols (A B : Tb) : Prop := ∀ r, B r 3 ≤ A r 3 ∧ A r 0 = B r 0 ∧ A r 1 = B r 1 ∧ A r 2 = B r 2 ∧ A r 4 = B r 4
theorem ButCols.refl (A : Tb) : ButCols A A := fun _ => ⟨Int.le_refl _, rfl, rfl, rfl, rfl⟩

theorem mv_cols {U : Tb} {n x p : Int} (w : Wf U n) (h : mvE U n x p = 0) : ∀ r, U r 3 ≤ mvT U n x p r 3 ∧ mvT U n x p r 0 = (if r = x then p else U r 0) ∧ mvT U n x p r 1 = U r 1 ∧ mvT U n x p r 2 = U r 2 ∧ mvT U n x p r 4 = U r 4 := by
  intro r
  unfold mvT
  rw [if_pos h]
  generalize hS : tupd (subP U n (U x 0) (U x 5)) x 0 p = S
  obtain ⟨wS, hpath, hs, h5, hoff⟩ := mvT_parts w h hS
  have hA := addP_shape S n p (U x 5) r
  refine ⟨?_, by rw [hA.1, (hs r).2], by rw [addP_1, hoff r 1 (by omega) (by omega)], by rw [addP_2, hoff r 2 (by omega) (by omega)], by rw [hA.2, (hs r).1]⟩
  rw [addP_3, hoff r 3 (by omega) (by omega)]
  split <;> omega
theorem move_back {T U : Tb} {n x p : Int} (hU : ButCols U T) (w : Wf U n) (h1 : mvE U n x p = 0) (h2 : mvE (mvT U n x p) n x (T x 0) = 0) : ButCols (mvT (mvT U n x p) n x (T x 0)) T := by
  intro r
  obtain ⟨a3, a0, a1, a2, a4⟩ := mv_cols w h1 r
  obtain ⟨b3, b0, b1, b2, b4⟩ := mv_cols (mvT_wf w (x := x) (p := p)) h2 r
  obtain ⟨c3, c0, c1, c2, c4⟩ := hU r
  refine ⟨by omega, ?_, by omega, by omega, by omega⟩
  rw [b0]
  by_cases e : r = x
  · rw [if_pos e, e]
  · rw [if_neg e, a0, if_neg e, c0]

theorem ch_gi {T : Tb} {n i d : Int} (w : Wf T n) (h : chE T n i d = 0) : giE (chT T n i d) n i d = 0 ∧ ButCols (giT (chT T n i d) n i d) T := by
  obtain ⟨h1, h2, h3, h4⟩ := chE_ok h
  have hs1 : Shape (tupd T i 2 (T i 2 + d)) T := tupd_shape (by omega) (by omega)
  have eC : chT T n i d = addP (tupd T i 2 (T i 2 + d)) n i d := by rw [chT, if_pos h]
  generalize hC : chT T n i d = C at *
  have hsC : Shape C T := by rw [eC]; exact (addP_shape _ _ _ _).trans hs1
  have c2 : ∀ r, C r 2 = T r 2 + (if r = i then d else 0) := fun r => by
    rw [eC, addP_2]
    by_cases e : r = i
    · subst e; rw [tupd_same, if_pos rfl]
    · rw [tupd_ne (fun x => e x.1), if_neg e]; omega
  have c1 : ∀ r, C r 1 = T r 1 := fun r => by rw [eC, addP_1, tupd_ne (by omega)]
  have c3 : ∀ r, T r 3 ≤ C r 3 := fun r => by
    rw [eC, addP_3, tupd_ne (by omega)]
    split <;> omega
  have hi : C i 2 = T i 2 + d := by rw [c2, if_pos rfl]
  have h0 := (w.rng i h1).2.2.1
  have hE : giE C n i d = 0 := by
    unfold giE
    rw [if_neg (fun x => x (hsC.opn.2 h1)), if_neg (by unfold outs; omega), if_neg (by omega)]
  refine ⟨hE, fun r => ?_⟩
  have hs2 : Shape (tupd C i 2 (C i 2 - d)) C := tupd_shape (by omega) (by omega)
  have eG : giT C n i d = addP (tupd C i 2 (C i 2 - d)) n i (0 - d) := by rw [giT, if_pos hE]
  have hsG := ((addP_shape (tupd C i 2 (C i 2 - d)) n i (0 - d)).trans hs2).trans hsC
  rw [eG]
  refine ⟨?_, (hsG r).1, by rw [addP_1, tupd_ne (by omega), c1], ?_, (hsG r).2⟩
  · rw [addP_3, tupd_ne (by omega)]
    have := c3 r
    split <;> omega
  · rw [addP_2]
    by_cases e : r = i
    · subst e; rw [tupd_same, hi]; omega
    · rw [tupd_ne (fun x => e x.1), c2, if_neg e]; omega
/-! ### Peaks -/

theorem PeaksIn.at {P T : Tb} {n k : Int} (h : PeaksIn P T n k) (ho : Opn T n k) : T k 3 = if T k 5 > P k 0 then T k 5 else P k 0 := by
  have := (h k ho).2 (Int.le_refl _)
  split <;> omega
theorem PeaksIn.next {P T : Tb} {n k v : Int} (h : PeaksIn P T n k) (hv : v = T k 3) : PeaksIn (tupd P k 0 v) T n (k + 1) := fun i hi => by
  by_cases e : i = k
  · subst e; rw [tupd_same]; exact ⟨fun _ => hv, fun y => by omega⟩
  · rw [tupd_ne (fun x => e x.1)]
    exact ⟨fun y => (h i hi).1 (by omega), fun y => (h i hi).2 (by omega)⟩
theorem PeaksIn.skip {P T : Tb} {n k : Int} (h : PeaksIn P T n k) (ho : ¬ Opn T n k) : PeaksIn P T n (k + 1) := fun i hi => by
  have e : i ≠ k := fun e => ho (e ▸ hi)
  exact ⟨fun y => (h i hi).1 (by omega), fun y => (h i hi).2 (by omega)⟩
theorem PeaksIn.last {P T : Tb} {n k : Int} (h : PeaksIn P T n k) (hn : n ≤ k) : PeaksAt P T n := fun i hi => (h i hi).1 (by have := hi.2.1; omega)
theorem peaks_new {T : Tb} {n k a b : Int} {P : Tb} (w : Wf T n) (h : PeaksAt P T n) (h0 : k % 8 = 0) : PeaksIn (tupd P (doR T n k a b) 0 0) (doT T n k a b) (doN T n k a b) 0 ∨ doE T n k a b ≠ 0 := by
  by_cases hE : doE T n k a b = 0
  · left
    intro i hi
    refine ⟨fun y => by have := hi.1; omega, fun _ => ?_⟩
    rcases do_peaks w hi with ⟨_, _, e, hm⟩ | ⟨hne, ho, hm⟩
    · rw [e, tupd_same, ← e]; exact hm
    · rw [tupd_ne (fun x => hne h0 hE x.1), h i ho]; exact hm
  · exact .inr hE
theorem peaks_old {T : Tb} {n k a b : Int} {P : Tb} (w : Wf T n) (h : PeaksAt P T n) (h0 : ¬ (k % 8 = 0 ∧ doE T n k a b = 0)) : PeaksIn P (doT T n k a b) (doN T n k a b) 0 := by
  intro i hi
  refine ⟨fun y => by have := hi.1; omega, fun _ => ?_⟩
  rcases do_peaks w hi with ⟨a1, a2, _⟩ | ⟨_, ho, hm⟩
  · exact (h0 ⟨a1, a2⟩).elim
  · rw [h i ho]; exact hm
theorem doR_rng {T : Tb} {n k a b : Int} (w : Wf T n) (h0 : k % 8 = 0) (hE : doE T n k a b = 0) : 0 ≤ doR T n k a b ∧ doR T n k a b < 64 := by
  unfold doE at hE
  unfold doR
  rw [if_pos h0] at hE ⊢
  exact cdR_rng w hE
theorem ch_no {T : Tb} {n i d : Int} (h : ¬ chE T n i d = 0) : chT T n i d = T := by rw [chT, if_neg h]
end Go.Proofs.Ytafipmoglaepcaa.Ac
