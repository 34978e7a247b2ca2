/-
  Tables that agree where budgets have nodes: all that is asked of them agrees. Plain Lean. Conditions: none.
-/
import Derived.Test.YtafipmoglaepcaaAcSub
namespace Go.Proofs.Ytafipmoglaepcaa.Ac
open Go.Sx (tupd)

def Ag (A B : Tb) (n : Int) : Prop := ∀ r, 0 ≤ r → r < n → ∀ c, c < 6 → A r c = B r c
section
variable {A B : Tb} {n : Int}
theorem Ag.symm (h : Ag A B n) : Ag B A n := fun r a b c d => (h r a b c d).symm
theorem Ag.sh (h : Ag A B n) : Sh A B n := ⟨fun r a b => h r a b 0 (by omega), fun r a b => h r a b 2 (by omega), fun r a b => h r a b 4 (by omega)⟩
theorem Ag.opn (h : Ag A B n) (i : Int) : Opn A n i ↔ Opn B n i := h.sh.opn
theorem Ag.at (h : Ag A B n) {i : Int} (hi : Opn A n i) {c : Nat} (hc : c < 6) : A i c = B i c := h i hi.1 hi.2.1 c hc
theorem Ag.wt (h : Ag A B n) (w : Wt A n) : Wt B n := by
  obtain ⟨r, hr⟩ := w.rank
  have hn := w.n1
  refine ⟨w.n1, w.n64, by rw [← h 0 (by omega) (by omega) 4 (by omega)]; exact w.root, by rw [← h 0 (by omega) (by omega) 0 (by omega)]; exact w.rootp, fun i hi h0 => ?_, r, fun i hi h0 => ?_⟩
  · have hi' := (h.opn i).2 hi
    rw [← h.at hi' (by omega)]
    exact (h.opn _).1 (w.par i hi' h0)
  · have hi' := (h.opn i).2 hi
    rw [← h.at hi' (by omega)]
    exact hr i hi' h0
theorem Ag.path (h : Ag A B n) (w : Wt A n) (i : Int) : path A n i = path B n i := by
  rw [← pthL_path w, ← pthL_path (h.wt w)]
  exact h.sh.pathF _ _
theorem Ag.err (h : Ag A B n) (i : Int) : err A n i = err B n i := by
  unfold Ac.err
  by_cases hi : Opn A n i
  · rw [if_pos hi, if_pos ((h.opn i).1 hi)]
  · rw [if_neg hi, if_neg (fun x => hi ((h.opn i).2 x))]
theorem Ag.val (h : Ag A B n) (i : Int) {c : Nat} (hc : c < 6) : val A n i c = val B n i c := by
  unfold Ac.val
  by_cases hi : Opn A n i
  · rw [if_pos hi, if_pos ((h.opn i).1 hi), h.at hi hc]
  · rw [if_neg hi, if_neg (fun x => hi ((h.opn i).2 x))]
theorem Ag.room (h : Ag A B n) {i : Int} (hi : Opn A n i) : room A i = room B i := by unfold Ac.room; rw [h.at hi (by omega), h.at hi (by omega)]
theorem Ag.fold (h : Ag A B n) : ∀ (l : List Int) (b : Int), Opn A n b → (∀ x ∈ l, Opn A n x) →
    l.foldl (fun b p => if Ac.room A p < Ac.room A b then p else b) b = l.foldl (fun b p => if Ac.room B p < Ac.room B b then p else b) b ∧ Opn A n (l.foldl (fun b p => if Ac.room A p < Ac.room A b then p else b) b)
  | [], _, hb, _ => ⟨rfl, hb⟩
  | x :: l, b, hb, hl => by
    simp only [List.foldl_cons]
    rw [← h.room hb, ← h.room (hl x (by simp))]
    refine h.fold l _ ?_ fun y hy => hl y (by simp [hy])
    split
    · exact hl x (by simp)
    · exact hb
theorem Ag.tgt (h : Ag A B n) (w : Wt A n) {i : Int} (hi : Opn A n i) : tgt A n i i = tgt B n i i ∧ Opn A n (tgt A n i i) := by
  unfold Ac.tgt
  rw [← h.path w]
  exact h.fold _ _ hi fun x hx => (mem_path w i hx).1
theorem Ag.tight (h : Ag A B n) (w : Wt A n) (i : Int) : tight A n i = tight B n i := by
  unfold Ac.tight
  by_cases hi : Opn A n i
  · rw [if_pos hi, if_pos ((h.opn i).1 hi), (h.tgt w hi).1]
  · rw [if_neg hi, if_neg (fun x => hi ((h.opn i).2 x))]
theorem Ag.head (h : Ag A B n) (w : Wt A n) (i : Int) : head A n i = head B n i := by
  unfold Ac.head
  by_cases hi : Opn A n i
  · rw [if_pos hi, if_pos ((h.opn i).1 hi), ← (h.tgt w hi).1, h.room (h.tgt w hi).2]
  · rw [if_neg hi, if_neg (fun x => hi ((h.opn i).2 x))]
theorem Ag.ovL (h : Ag A B n) : ∀ k : Nat, ovL A n k = ovL B n k
  | 0 => rfl
  | k + 1 => by
    simp only [Ac.ovL, h.ovL k]
    by_cases hi : Opn A n k
    · rw [h.room hi]; simp only [hi, (h.opn k).1 hi]
    · have hi' : ¬ Opn B n k := fun x => hi ((h.opn k).2 x)
      rw [if_neg (fun x => hi x.1), if_neg (fun x => hi' x.1)]
theorem Ag.subF (h : Ag A B n) : ∀ (f : Nat) (i : Int), subF A n f i = subF B n f i
  | 0, _ => rfl
  | f + 1, i => by
    simp only [Ac.subF]
    congr 1
    refine catN_congr fun j _ => ?_
    by_cases hj : Opn A n (j : Int)
    · rw [h.at hj (by omega), h.subF f]; simp only [hj, (h.opn j).1 hj]
    · have hj' : ¬ Opn B n j := fun x => hj ((h.opn j).2 x)
      rw [if_neg (fun x => hj x.1), if_neg (fun x => hj' x.1)]
theorem Ag.subL (h : Ag A B n) (w : Wt A n) (i : Int) : subL A n i = subL B n i := by
  unfold Ac.subL high
  rw [h.path w, h.subF]
  by_cases hi : Opn A n i
  · rw [if_pos hi, if_pos ((h.opn i).1 hi)]
  · rw [if_neg hi, if_neg (fun x => hi ((h.opn i).2 x))]
end
theorem ag_of {R T : Tb} {n : Int} (w : Wf T n) (h : RefOf R T n) : Ag T (exT R n) n := fun r h0 hn c hc => by
  by_cases h5 : c = 5
  · subst h5
    by_cases hr : Opn T n r
    · exact (ex_at w h hr).symm
    · have h4 : T r 4 ≠ 0 := fun x => hr ⟨h0, hn, x⟩
      rw [(w.cl r h0 hn h4).2.2.2.2.2, exT_5]
      unfold allR allK
      refine (sumN_zero fun j _ => ?_).symm
      rw [if_neg]
      rintro ⟨_, hm⟩
      have := pathF_opn R n _ _ hm
      exact hr (h.sh.opn.1 this)
  · rw [exT_ne _ _ _ h5]; exact (h r h0 hn c (by omega)).symm
end Go.Proofs.Ytafipmoglaepcaa.Ac

namespace Go.Proofs.Ytafipmoglaepcaa.Ac
open Go.Sx (tupd)
section
variable {A B : Tb} {n : Int}
theorem Ag.le (h : Ag A B n) {m : Int} (hm : m ≤ n) : Ag A B m := fun r a b => h r a (by omega)
theorem Ag.wf (h : Ag A B n) (w : Wf A n) : Wf B n where
  toWt := h.wt w.toWt
  last := by have := w.n1; rw [← h (n - 1) (by omega) (by omega) 4 (by omega)]; exact w.last
  cl := fun i h0 hn h4 => by
    have e := h i h0 hn
    have := w.cl i h0 hn (by rw [e 4 (by omega)]; exact h4)
    rwa [e 0 (by omega), e 1 (by omega), e 2 (by omega), e 3 (by omega), e 4 (by omega), e 5 (by omega)] at this
  rng := fun i hi => by
    have hi' := (h.opn i).2 hi
    have := w.rng i hi'
    rwa [h.at hi' (by omega), h.at hi' (by omega), h.at hi' (by omega), h.at hi' (by omega)] at this
  sums := fun i hi => by
    have hi' := (h.opn i).2 hi
    have := w.sums i hi'
    rw [← this]
    unfold df kids
    rw [h.at hi' (by omega), h.at hi' (by omega)]
    congr 1
    refine sumN_congr fun k _ => ?_
    by_cases hk : Opn A n (k : Int)
    · rw [h.at hk (by omega), h.at hk (by omega)]; simp only [hk, (h.opn k).1 hk]
    · have hk' : ¬ Opn B n k := fun x => hk ((h.opn k).2 x)
      rw [if_neg (fun x => hk' x.1), if_neg (fun x => hk x.1)]
theorem Ag.upd (h : Ag A B n) (i x : Int) (c : Nat) : Ag (tupd A i c x) (tupd B i c x) n := fun r a b d hd => by
  unfold tupd
  split
  · rfl
  · exact h r a b d hd
theorem Ag.addP (h : Ag A B n) (w : Wt A n) (i d : Int) : Ag (addP A n i d) (addP B n i d) n := fun r a b c hc => by
  unfold Ac.addP
  rw [h.path w, h r a b 5 (by omega), h r a b 3 (by omega), h r a b c hc]
theorem Ag.subP (h : Ag A B n) (w : Wt A n) (i d : Int) : Ag (subP A n i d) (subP B n i d) n := fun r a b c hc => by
  unfold Ac.subP
  rw [h.path w, h r a b 5 (by omega), h r a b c hc]
theorem ag_row {q a b c d e f m : Int} (h : ∀ r, 0 ≤ r → r < m → r ≠ q → ∀ c, c < 6 → A r c = B r c) : Ag (row6 A q a b c d e f) (row6 B q a b c d e f) m := fun r h0 hm k hk => by
  by_cases hr : r = q
  · subst hr
    have e1 := row6_on A r a b c d e f
    have e2 := row6_on B r a b c d e f
    have : k = 0 ∨ k = 1 ∨ k = 2 ∨ k = 3 ∨ k = 4 ∨ k = 5 := by omega
    rcases this with rfl | rfl | rfl | rfl | rfl | rfl
    · rw [e1.1, e2.1]
    · rw [e1.2.1, e2.2.1]
    · rw [e1.2.2.1, e2.2.2.1]
    · rw [e1.2.2.2.1, e2.2.2.2.1]
    · rw [e1.2.2.2.2.1, e2.2.2.2.2.1]
    · rw [e1.2.2.2.2.2, e2.2.2.2.2.2]
  · rw [row6_off hr, row6_off hr]; exact h r h0 hm hr k hk
/-! ### Charge, Give, SetLimit -/
theorem opn_if (h : Ag A B n) (i : Int) (x y : Int) : (if ¬ Opn A n i then x else y) = if ¬ Opn B n i then x else y := by
  by_cases hi : Opn A n i
  · rw [if_neg (fun z => z hi), if_neg (fun z => z ((h.opn i).1 hi))]
  · rw [if_pos hi, if_pos (fun z => hi ((h.opn i).2 z))]
theorem Ag.chE (h : Ag A B n) (w : Wt A n) (i d : Int) : chE A n i d = chE B n i d := by
  unfold Ac.chE; rw [h.head w, opn_if h]
theorem Ag.giE (h : Ag A B n) (i d : Int) : giE A n i d = giE B n i d := by
  unfold Ac.giE
  by_cases hi : Opn A n i
  · rw [h.at hi (by omega), opn_if h]
  · rw [if_pos hi, if_pos (fun z => hi ((h.opn i).2 z))]
theorem Ag.slE (h : Ag A B n) (i d : Int) : slE A n i d = slE B n i d := by unfold Ac.slE; rw [opn_if h]
theorem chE_opn {i d : Int} (h : chE A n i d = 0) : Opn A n i := by
  unfold chE at h
  by_cases hi : Opn A n i
  · exact hi
  · rw [if_pos hi] at h; omega
theorem giE_opn {i d : Int} (h : giE A n i d = 0) : Opn A n i := by
  unfold giE at h
  by_cases hi : Opn A n i
  · exact hi
  · rw [if_pos hi] at h; omega
theorem Ag.chT (h : Ag A B n) (w : Wt A n) (i d : Int) : Ag (chT A n i d) (chT B n i d) n := by
  unfold Ac.chT
  rw [← h.chE w]
  split
  · rename_i h0
    rw [h.at (chE_opn h0) (by omega)]
    exact (h.upd i _ 2).addP ((tupd_shape (by omega) (by omega)).wt w) _ _
  · exact h
theorem Ag.giT (h : Ag A B n) (w : Wt A n) (i d : Int) : Ag (giT A n i d) (giT B n i d) n := by
  unfold Ac.giT
  rw [← h.giE]
  split
  · rename_i h0
    rw [h.at (giE_opn h0) (by omega)]
    exact (h.upd i _ 2).addP ((tupd_shape (by omega) (by omega)).wt w) _ _
  · exact h
theorem Ag.slT (h : Ag A B n) (i d : Int) : Ag (slT A n i d) (slT B n i d) n := by
  unfold Ac.slT
  rw [← h.slE]
  split
  · exact h.upd i _ 1
  · exact h
/-! ### Child -/
theorem Ag.fcF (h : Ag A B n) : ∀ (f : Nat) (k : Int), 0 ≤ k → fcF A n f k = fcF B n f k
  | 0, _, _ => rfl
  | f + 1, k, h0 => by
    simp only [Ac.fcF]
    by_cases hk : k < n
    · rw [if_pos hk, if_pos hk, h k h0 hk 4 (by omega), h.fcF f (k + 1) (by omega)]
    · rw [if_neg hk, if_neg hk]
theorem Ag.fc (h : Ag A B n) : fc A n 0 = fc B n 0 := by unfold Ac.fc; exact h.fcF _ _ (by omega)
theorem Ag.fcN (h : Ag A B n) : fcN A n = fcN B n := by unfold Ac.fcN; rw [h.fc]
theorem Ag.cdE (h : Ag A B n) (p l : Int) : cdE A n p l = cdE B n p l := by unfold Ac.cdE; rw [h.fc, opn_if h]
theorem Ag.cdN (h : Ag A B n) (p l : Int) : cdN A n p l = cdN B n p l := by unfold Ac.cdN; rw [h.fc, h.cdE]
theorem Ag.cdR (h : Ag A B n) (p l : Int) : cdR A n p l = cdR B n p l := by unfold Ac.cdR; rw [h.fcN, h.cdE]
theorem Ag.cdT (h : Ag A B n) (p l : Int) : Ag (cdT A n p l) (cdT B n p l) (Ac.cdN A n p l) := by
  unfold Ac.cdT
  rw [← h.cdE, ← h.fcN]
  by_cases h0 : Ac.cdE A n p l = 0
  · rw [if_pos h0, if_pos h0]
    refine ag_row fun r a b hq => h r a ?_
    unfold Ac.cdN at b
    unfold Ac.fcN at hq
    by_cases hf : Ac.fc A n 0 < 0
    · rw [if_pos ⟨h0, hf⟩] at b
      rw [if_pos hf] at hq
      omega
    · rw [if_neg (fun x => hf x.2)] at b; exact b
  · rw [if_neg h0, if_neg h0]
    unfold Ac.cdN
    rw [if_neg (fun x => h0 x.1)]
    exact h
/-! ### Close -/
theorem Ag.kid (h : Ag A B n) (i : Int) : hasKid A n i ↔ hasKid B n i := by
  constructor
  · rintro ⟨k, a, b, c⟩; exact ⟨k, (h.opn k).1 a, b, by rw [← h.at a (by omega)]; exact c⟩
  · rintro ⟨k, a, b, c⟩; exact ⟨k, (h.opn k).2 a, b, by rw [h.at ((h.opn k).2 a) (by omega)]; exact c⟩
theorem Ag.clE (h : Ag A B n) (i : Int) : clE A n i = clE B n i := by
  unfold Ac.clE
  by_cases hi : Opn A n i
  · rw [if_neg (fun z : ¬ Opn A n i => z hi), if_neg (fun z : ¬ Opn B n i => z ((h.opn i).1 hi)), h.at hi (by omega)]
    by_cases h0 : i = 0
    · rw [if_pos h0, if_pos h0]
    rw [if_neg h0, if_neg h0]
    by_cases hk : hasKid A n i ∨ B i 2 ≠ 0
    · rw [if_pos hk, if_pos (hk.imp (h.kid i).1 id)]
    · rw [if_neg hk, if_neg (fun z => hk (z.imp (h.kid i).2 id))]
  · rw [if_pos hi, if_pos (fun z : Opn B n i => hi ((h.opn i).2 z))]
theorem trim_same {S T : Tb} : ∀ m : Nat, (∀ r : Nat, r < m → S r 4 = T r 4) → trimF S m = trimF T m
  | 0, _ => rfl
  | m + 1, h => by
    simp only [trimF]
    rw [h m (by omega), trim_same m fun r hr => h r (by omega)]
theorem Ag.trim (h : Ag A B n) : trimN A n = trimN B n := by
  unfold trimN
  exact trim_same _ fun r hr => h r (by omega) (by omega) 4 (by omega)
theorem Ag.clN (h : Ag A B n) (i : Int) : clN A n i = clN B n i := by
  unfold Ac.clN
  rw [← h.clE, (ag_row fun r a b _ => h r a b : Ag (row6 A i (-1) 0 0 0 1 0) (row6 B i (-1) 0 0 0 1 0) n).trim]
theorem clN_le (A : Tb) (n i : Int) (hn : 0 ≤ n) : clN A n i ≤ n := by
  unfold clN
  split
  · unfold trimN
    have := (trimF_spec (T := row6 A i (-1) 0 0 0 1 0) n.toNat).2.1
    omega
  · omega
theorem Ag.clT (h : Ag A B n) (i : Int) (hn : 0 ≤ n) : Ag (clT A n i) (clT B n i) (Ac.clN A n i) := by
  refine Ag.le ?_ (clN_le A n i hn)
  unfold Ac.clT
  rw [← h.clE]
  split
  · exact ag_row fun r a b _ => h r a b
  · exact h
/-! ### Move, and a call -/
theorem Ag.full (h : Ag A B n) (w : Wt A n) (p o a : Int) : tooFull A n p o a ↔ tooFull B n p o a := by
  unfold tooFull
  rw [h.path w, h.path w]
  constructor
  · rintro ⟨q, a, b, c, d⟩
    have hq : Opn A n q := (mem_path w p (by rw [h.path w]; exact a)).1
    exact ⟨q, a, b, by rw [← h.room hq]; exact c, d⟩
  · rintro ⟨q, a, b, c, d⟩
    have hq : Opn A n q := (mem_path w p (by rw [h.path w]; exact a)).1
    exact ⟨q, a, b, by rw [h.room hq]; exact c, d⟩
theorem Ag.mvE (h : Ag A B n) (w : Wt A n) (x p : Int) : mvE A n x p = mvE B n x p := by
  unfold Ac.mvE
  by_cases hx : Opn A n x
  · rw [h.at hx (by omega), h.at hx (by omega), h.path w]
    simp only [h.opn]
    by_cases h1 : ¬ Opn B n x ∨ ¬ Opn B n p
    · rw [if_pos h1, if_pos h1]
    rw [if_neg h1, if_neg h1]
    by_cases h0 : x = 0
    · rw [if_pos h0, if_pos h0]
    rw [if_neg h0, if_neg h0]
    by_cases h2 : x ∈ Ac.path B n p
    · rw [if_pos h2, if_pos h2]
    rw [if_neg h2, if_neg h2]
    by_cases h3 : tooFull A n p (B x 0) (B x 5)
    · rw [if_pos h3, if_pos ((h.full w _ _ _).1 h3)]
    · rw [if_neg h3, if_neg (fun z => h3 ((h.full w _ _ _).2 z))]
  · have hx' : ¬ Opn B n x := fun z => hx ((h.opn x).2 z)
    rw [if_pos (Or.inl hx), if_pos (Or.inl hx')]
theorem Ag.mvT (h : Ag A B n) (w : Wf A n) (x p : Int) : Ag (mvT A n x p) (mvT B n x p) n := by
  unfold Ac.mvT
  rw [← h.mvE w.toWt]
  split
  · rename_i h0
    have hx := (mvE_ok h0).1
    rw [← h.at hx (by omega), ← h.at hx (by omega)]
    have wS := (mvT_parts w h0 rfl).1
    exact ((h.subP w.toWt _ _).upd x p 0).addP wS _ _
  · exact h
theorem Ag.doE (h : Ag A B n) (w : Wf A n) (k a b : Int) : doE A n k a b = doE B n k a b := by
  unfold Ac.doE
  rw [h.cdE, h.clE, h.giE, h.slE, h.mvE w.toWt, h.chE w.toWt]
theorem Ag.doN (h : Ag A B n) (k a b : Int) : doN A n k a b = doN B n k a b := by
  unfold Ac.doN
  rw [h.cdN, h.clN]
theorem Ag.doR (h : Ag A B n) (k a b : Int) : doR A n k a b = doR B n k a b := by
  unfold Ac.doR
  rw [h.cdR]
theorem Ag.doT (h : Ag A B n) (w : Wf A n) (k a b : Int) : Ag (doT A n k a b) (doT B n k a b) (Ac.doN A n k a b) := by
  have hn := w.n1
  unfold Ac.doT Ac.doN
  by_cases h0 : k % 8 = 0
  · simp only [h0, if_true]; exact h.cdT a b
  by_cases h1 : k % 8 = 1
  · rw [if_neg h0, if_neg h0, if_neg h0, if_pos h1, if_pos h1, if_pos h1]; exact h.clT a (by omega)
  rw [if_neg h0, if_neg h0, if_neg h0, if_neg h1, if_neg h1, if_neg h1]
  by_cases h5 : k % 8 = 5
  · rw [if_pos h5, if_pos h5]; exact h.giT w.toWt a b
  rw [if_neg h5, if_neg h5]
  by_cases h6 : k % 8 = 6
  · rw [if_pos h6, if_pos h6]; exact h.slT a b
  rw [if_neg h6, if_neg h6]
  by_cases h7 : k % 8 = 7
  · rw [if_pos h7, if_pos h7]; exact h.mvT w a b
  rw [if_neg h7, if_neg h7]; exact h.chT w.toWt a b
end
end Go.Proofs.Ytafipmoglaepcaa.Ac
