/-
  The reference's tables: five columns; the sums are reckoned by paths. Plain Lean. Conditions: none.
-/
import Derived.Test.YtafipmoglaepcaaAcLaw2
import Derived.Test.YtafipmoglaepcaaAcSums
namespace Go.Proofs.Ytafipmoglaepcaa.Ac
open Go.Sx (tupd)

def pthL (R : Tb) (n i : Int) : List Int := pathF R n (n + 1).toNat i
def allK (R : Tb) (n i : Int) (k : Nat) : Int := sumN (fun j => if Opn R n j ∧ i ∈ pthL R n j then R j 2 else 0) k
def allR (R : Tb) (n i : Int) : Int := allK R n i n.toNat
def exT (R : Tb) (n : Int) : Tb := fun r c => if c = 5 then allR R n r else R r c
def peaksR (R : Tb) (n k : Int) : Tb := fun r c => if c = 3 ∧ 0 ≤ r ∧ r < k ∧ Opn R n r then (if allR R n r > R r 3 then allR R n r else R r 3) else R r c

def Small (n : Int) : Prop := 0 ≤ n ∧ n ≤ 64
def OwnRng (R : Tb) (n : Int) : Prop := ∀ r, 0 ≤ r → r < n → 0 ≤ R r 2 ∧ R r 2 ≤ 4096
/-- What the reference shows is what the table shows. -/
def RefOf (R T : Tb) (n : Int) : Prop := ∀ r, 0 ≤ r → r < n → ∀ c, c < 5 → R r c = T r c
def PathAtF (S : Tb) (m : Int) (R : Tb) (n i q : Int) : Prop := ∃ l, pthL R n i = l ++ pathF R n ((n + 1).toNat - l.length) q ∧ S = lstT l ∧ m = l.length ∧ m ≤ n + 1
def stepT (T : Tb) (b p : Int) : Int := if room T p < room T b then p else b
def TightAt (R : Tb) (n i b k : Int) : Prop := ((pthL R n i).drop k.toNat).foldl (stepT (exT R n)) b = tgt (exT R n) n i i ∧ Opn R n b
def NotFull (R : Tb) (n x p k : Int) : Prop := ∀ q ∈ (pthL R n p).take k.toNat, ¬ (allR R n x > 0 ∧ allR R n x > R q 1 - allR R n q ∧ q ∉ pthL R n (R x 0))
def AllOpen (R : Tb) (k : Int) : Prop := ∀ j, 0 ≤ j → j < k → R j 4 = 0
def NoKid (R : Tb) (n i k : Int) : Prop := ∀ j, 0 ≤ j → j < k → ¬ (Opn R n j ∧ R j 0 = i)

theorem exT_ne (R : Tb) (n r : Int) {c : Nat} (h : c ≠ 5) : exT R n r c = R r c := by simp [exT, h]
theorem exT_5 (R : Tb) (n r : Int) : exT R n r 5 = allR R n r := by simp [exT]
theorem exT_shape (R : Tb) (n : Int) : Shape R (exT R n) := fun r => ⟨(exT_ne R n r (by omega)).symm, (exT_ne R n r (by omega)).symm⟩
theorem exT_opn {R : Tb} {n i : Int} : Opn (exT R n) n i ↔ Opn R n i := (exT_shape R n).opn.symm
theorem exT_room (R : Tb) (n p : Int) : room (exT R n) p = R p 1 - allR R n p := by unfold room; rw [exT_5, exT_ne _ _ _ (by omega)]

theorem pathF_take {T : Tb} {n : Int} (w : Wt T n) : ∀ (f : Nat) (i : Int), pathF T n f i = (path T n i).take f
  | 0, i => by simp [pathF]
  | f + 1, i => by
    by_cases h : Opn T n i
    · rw [path_open w h]; simp only [pathF, if_pos h, List.take_succ_cons, pathF_take w f]
    · rw [path_not h]; simp [pathF, h]
theorem path_len_n {T : Tb} {n : Int} (w : Wt T n) (i : Int) : (path T n i).length ≤ n.toNat := by
  refine nodup_len n.toNat _ (path_nodup w i) fun x hx => ?_
  have h := (mem_path w i hx).1
  have := w.n1
  exact ⟨h.1, by have := h.2.1; omega⟩
theorem pthL_path {T : Tb} {n : Int} (w : Wt T n) (i : Int) : pthL T n i = path T n i := by
  unfold pthL
  rw [pathF_take w]
  have := path_len_n w i
  have := w.n1
  exact List.take_of_length_le (by omega)
theorem pathF_len (R : Tb) (n : Int) : ∀ (f : Nat) (i : Int), (pathF R n f i).length ≤ f
  | 0, i => by simp [pathF]
  | f + 1, i => by
    simp only [pathF]
    split
    · simp; exact pathF_len R n f _
    · simp
theorem pathF_opn (R : Tb) (n : Int) {x : Int} : ∀ (f : Nat) (i : Int), x ∈ pathF R n f i → Opn R n x
  | 0, i, h => by simp [pathF] at h
  | f + 1, i, h => by
    simp only [pathF] at h
    split at h
    · rename_i ho
      rcases List.mem_cons.1 h with rfl | h
      · exact ho
      · exact pathF_opn R n f _ h
    · cases h

/-- Sums look at the tree and at what nodes have themselves. -/
structure Sh (S R : Tb) (n : Int) : Prop where
  at0 : ∀ r, 0 ≤ r → r < n → S r 0 = R r 0
  at2 : ∀ r, 0 ≤ r → r < n → S r 2 = R r 2
  at4 : ∀ r, 0 ≤ r → r < n → S r 4 = R r 4
theorem Sh.opn {S R : Tb} {n i : Int} (h : Sh S R n) : Opn S n i ↔ Opn R n i := by
  unfold Opn
  constructor
  · rintro ⟨a, b, c⟩; exact ⟨a, b, by rw [← h.at4 i a b]; exact c⟩
  · rintro ⟨a, b, c⟩; exact ⟨a, b, by rw [h.at4 i a b]; exact c⟩
theorem Sh.symm {S R : Tb} {n : Int} (h : Sh S R n) : Sh R S n := ⟨fun r a b => (h.at0 r a b).symm, fun r a b => (h.at2 r a b).symm, fun r a b => (h.at4 r a b).symm⟩
theorem Sh.pathF {S R : Tb} {n : Int} (h : Sh S R n) : ∀ (f : Nat) (i : Int), pathF S n f i = pathF R n f i
  | 0, _ => rfl
  | f + 1, i => by
    simp only [Ac.pathF]
    by_cases ho : Opn R n i
    · rw [if_pos ho, if_pos (h.opn.2 ho), h.at0 i ho.1 ho.2.1, Sh.pathF h f]
    · rw [if_neg ho, if_neg (fun x => ho (h.opn.1 x))]
theorem Sh.all {S R : Tb} {n : Int} (h : Sh S R n) (i : Int) {k : Nat} (hk : (k : Int) ≤ n) : allK S n i k = allK R n i k := by
  unfold allK pthL
  refine sumN_congr fun j hj => ?_
  rw [h.pathF, h.at2 j (by omega) (by omega)]
  by_cases hc : Opn R n j ∧ i ∈ Ac.pathF R n (n + 1).toNat j
  · rw [if_pos hc, if_pos ⟨h.opn.2 hc.1, hc.2⟩]
  · rw [if_neg hc, if_neg (fun x => hc ⟨h.opn.1 x.1, x.2⟩)]
theorem Sh.wt {S R : Tb} {n : Int} (h : Sh S R n) (w : Wt R n) : Wt S n where
  n1 := w.n1
  n64 := w.n64
  root := by rw [h.at4 0 (by omega) (by have := w.n1; omega)]; exact w.root
  rootp := by rw [h.at0 0 (by omega) (by have := w.n1; omega)]; exact w.rootp
  par := fun i hi h0 => by rw [h.at0 i hi.1 hi.2.1]; exact h.opn.2 (w.par i (h.opn.1 hi) h0)
  rank := by
    obtain ⟨r, hr⟩ := w.rank
    exact ⟨r, fun i hi h0 => by rw [h.at0 i hi.1 hi.2.1]; exact hr i (h.opn.1 hi) h0⟩
theorem Sh.path {S R : Tb} {n : Int} (h : Sh S R n) (w : Wt R n) (i : Int) : path S n i = path R n i := by
  rw [← pthL_path (h.wt w), ← pthL_path w]; exact h.pathF _ _

theorem allR_below {R : Tb} {n i : Int} (w : Wt R n) : allR R n i = below R n (fun k => R k 2) i := by
  unfold allR allK below
  exact sumN_congr fun j _ => by rw [pthL_path w]
/-- **The sums by paths are the sums that are kept.** -/
theorem all_right {T : Tb} {n : Int} (w : Wf T n) : ∀ (m : Nat) (i : Int), Opn T n i → high T n i ≤ m → allR T n i = T i 5
  | m, i, hi, hm => by
    have hs := w.sums i hi
    rw [allR_below w.toWt, below_kids w.toWt hi, show ((i.toNat : Nat) : Int) = i by have := hi.1; omega]
    have : sumN (fun k => if Opn T n k ∧ T k 0 = i then below T n (fun k => T k 2) k else 0) n.toNat = kids T n i := by
      unfold kids
      refine sumN_congr fun k _ => ?_
      by_cases hc : Opn T n k ∧ T k 0 = i
      · rw [if_pos hc, if_pos hc, ← allR_below w.toWt]
        have hk := high_kid w.toWt hc.1
        have h0 := (high_ok (i := k) w.toWt).1
        rw [hc.2] at hk
        match m with
        | 0 => omega
        | m + 1 => exact all_right w m k hc.1 (by omega)
      · rw [if_neg hc, if_neg hc]
    rw [this]
    unfold df at hs
    omega
theorem ref_all {R T : Tb} {n i : Int} (w : Wf T n) (h : Sh R T n) (hi : Opn T n i) : allR R n i = T i 5 := by
  have : allR R n i = allR T n i := h.all i (by have := w.n1; omega)
  rw [this]
  exact all_right w 64 i hi (high_ok w.toWt).2

theorem RefOf.sh {R T : Tb} {n : Int} (h : RefOf R T n) : Sh R T n := ⟨fun r a b => h r a b 0 (by omega), fun r a b => h r a b 2 (by omega), fun r a b => h r a b 4 (by omega)⟩
/-- The reference's table, its sums beside it, where the tree is right. -/
theorem ex_at {R T : Tb} {n : Int} (w : Wf T n) (h : RefOf R T n) {i : Int} (hi : Opn T n i) : exT R n i 5 = T i 5 := by rw [exT_5]; exact ref_all w h.sh hi

section
variable {R : Tb} {n : Int} (w : Wf (exT R n) n)
include w
theorem rwt : Wt R n := (exT_shape R n).wt w.toWt
theorem rsmall : Small n := ⟨by have := w.n1; omega, w.n64⟩
theorem rown : OwnRng R n := fun r h0 h1 => by
  have e2 : exT R n r 2 = R r 2 := exT_ne _ _ _ (by omega)
  have e4 : exT R n r 4 = R r 4 := exT_ne _ _ _ (by omega)
  by_cases h : R r 4 = 0
  · have ho : Opn (exT R n) n r := exT_opn.2 ⟨h0, h1, h⟩
    have := w.rng r ho
    have hl := w.own_le ho
    omega
  · have := w.cl r h0 h1 (by rw [e4]; exact h)
    omega
theorem rpath (i : Int) : pthL R n i = path (exT R n) n i := by
  rw [pthL_path (rwt w)]; exact (exT_shape R n).path w.toWt i
end

/-- Peaks raised, where the rest is right. -/
theorem peaks_right {R1 X T' : Tb} {n : Int} (wX : Wf X n) (w' : Wf T' n) (hs : Sh R1 T' n) (h1 : ∀ r, 0 ≤ r → r < n → R1 r 1 = T' r 1) (h3 : ∀ r, 0 ≤ r → r < n → R1 r 3 = X r 3) (h4 : ∀ r, 0 ≤ r → r < n → X r 4 = T' r 4)
    (hp : ∀ r, Opn T' n r → T' r 3 = max (X r 3) (T' r 5)) : RefOf (peaksR R1 n n) T' n := by
  intro r h0 hn c hc
  unfold peaksR
  have cases5 : c = 0 ∨ c = 1 ∨ c = 2 ∨ c = 3 ∨ c = 4 := by omega
  rcases cases5 with rfl | rfl | rfl | rfl | rfl
  · rw [if_neg (fun x => by omega)]; exact hs.at0 r h0 hn
  · rw [if_neg (fun x => by omega)]; exact h1 r h0 hn
  · rw [if_neg (fun x => by omega)]; exact hs.at2 r h0 hn
  · by_cases ho : Opn R1 n r
    · have ho' := hs.opn.1 ho
      rw [if_pos ⟨rfl, h0, hn, ho⟩, ref_all w' hs ho', h3 r h0 hn, hp r ho']
      split <;> omega
    · have h4' : T' r 4 ≠ 0 := fun x => ho (hs.opn.2 ⟨h0, hn, x⟩)
      rw [if_neg (fun x => ho x.2.2.2), h3 r h0 hn]
      have e1 := w'.cl r h0 hn h4'
      have e2 := wX.cl r h0 hn (by rw [h4 r h0 hn]; exact h4')
      omega
  · rw [if_neg (fun x => by omega)]; exact hs.at4 r h0 hn
end Go.Proofs.Ytafipmoglaepcaa.Ac
