/-
  What the contracts' signs mean. Conditions: none.
-/
import Derived.Test.YtafipmoglaepcaaAcCs
import Derived.Test.YtafipmoglaepcaaAcLoad
namespace Go.Proofs.Ytafipmoglaepcaa.Ac
open Go Go.Sx

noncomputable def Jfn (j : Nat) (a b c d : D) : D :=
  match j, a, b, c, d with
  | 0, .t T, .i n, .i i, _ => .i (if Opn T n i then 1 else 0)
  | 1, .t T, .i n, .i i, .i d => .t (addP T n i d)
  | 2, .t T, .i n, .i q, .i b => .i (tgt T n q b)
  | 3, .t T, .i n, .i i, _ => .i (meas T n i)
  | 4, .t T, .i n, .i i, _ => .i (err T n i)
  | 5, .t T, .i n, .i i, .i c => .i (val T n i c.toNat)
  | 6, .t T, .i n, .i i, _ => .i (tight T n i)
  | 7, .t T, .i n, .i i, _ => .i (head T n i)
  | 8, .t T, .i n, .i i, .i d => .i (chE T n i d)
  | 9, .t T, .i n, .i i, .i d => .t (chT T n i d)
  | 10, .t T, .i n, .i i, .i d => .i (giE T n i d)
  | 11, .t T, .i n, .i i, .i d => .t (giT T n i d)
  | 12, .t T, .i n, .i i, .i d => .i (slE T n i d)
  | 13, .t T, .i n, .i i, .i d => .t (slT T n i d)
  | 14, .t T, .i n, .i i, .i d => .i (cdE T n i d)
  | 15, .t T, .i n, .i i, .i d => .i (cdN T n i d)
  | 16, .t T, .i n, .i i, .i d => .t (cdT T n i d)
  | 17, .t T, .i n, .i i, .i d => .i (cdR T n i d)
  | 18, .t T, .i n, .i i, _ => .i (clE T n i)
  | 19, .t T, .i n, .i i, _ => .i (clN T n i)
  | 20, .t T, .i n, .i i, _ => .t (clT T n i)
  | 21, .t T, .i n, .i i, .i d => .i (mvE T n i d)
  | 22, .t T, .i n, .i i, .i d => .t (mvT T n i d)
  | 23, .t T, .i n, .t A, _ => .i (doE T n (A 0 0) (A 0 1) (A 0 2))
  | 24, .t T, .i n, .t A, _ => .i (doN T n (A 0 0) (A 0 1) (A 0 2))
  | 25, .t T, .i n, .t A, _ => .t (doT T n (A 0 0) (A 0 1) (A 0 2))
  | 26, .t T, .i n, .t A, _ => .i (doR T n (A 0 0) (A 0 1) (A 0 2))
  | 27, .t T, .i n, .i k, _ => .i (fc T n k)
  | 28, .i l, .t L, .i k, _ => .t (st l L k.toNat).1
  | 29, .i l, .t L, .i k, _ => .i (st l L k.toNat).2
  | 30, .t T, .i k, _, _ => .t (svT T k)
  | 31, .t T, .i n, .i i, _ => .t (lstT (path T n i))
  | 32, .t T, .i n, .i i, _ => .i (path T n i).length
  | 33, .t T, .i n, _, _ => .i (trimN T n)
  | 34, .t T, .i n, .i k, _ => .t (lstT (ovL T n k.toNat))
  | 35, .t T, .i n, .i k, _ => .i (ovL T n k.toNat).length
  | 36, .t T, .i n, .i i, .i d => .t (subP T n i d)
  | 37, .t T, .i n, .i i, _ => .i (size T n i)
  | 38, .t T, .i n, .i i, _ => .i (high T n i)
  | 39, .t T, .i n, .i i, .i k => .i (part T n i k)
  | 40, .t T, .i k, _, _ => .t (preT T k)
  | 41, .t T, .i n, .i i, .i k => .i (sumK T n i k)
  | 42, .t T, .t L, .i k, _ => .t (allT T L k)
  | 43, .t R, .i n, .i i, _ => .t (lstT (pthL R n i))
  | 44, .t R, .i n, .i i, _ => .i (pthL R n i).length
  | 45, .t R, .i n, .i i, _ => .i (allR R n i)
  | 46, .t R, .i n, _, _ => .t (exT R n)
  | 47, .t R, .i n, .i i, .i k => .i (allK R n i k.toNat)
  | 48, .t R, .i n, .i k, _ => .t (peaksR R n k)
  | 49, .t T, .i n, .i i, .i k => .t (lstT (partL T n i k))
  | 50, .t T, .i n, .i i, .i k => .i (partL T n i k).length
  | 51, .t T, .i n, .i i, _ => .t (lstT (subL T n i))
  | 52, .t T, .i n, .i i, _ => .i (subL T n i).length
  | 53, .t R, .i n, _, _ => .t (gdT R n)
  | 54, .i n, _, _, _ => .i (ldE n)
  | 55, .t S, .i n, .i i, .i k => .t (wlK S n i k)
  | 56, .t S, .i n, .i i, _ => .t (wlk S n i)
  | 57, .t S, .i n, .i k, _ => .t (smT S n k)
  | 58, .t R, .i n, .i k, _ => .i (opens R n k)
  | _, _, _, _, _ => .i 0
/-- Whatever else is asked: a value of its sort. -/
def fixS : Option Bool → D → D
  | some true, .i _ => .t fun _ _ => 0
  | some false, .t _ => .i 0
  | _, d => d
def Jpr (N : Nat) (j : Nat) (l : List D) : Prop :=
  match j, l with
  | 0, [.t T, .i n] => Wt T n
  | 1, [.t T, .i n, .i i, .i d] => AddFits T n i d
  | 2, [.t S, .t T, .i n, .i i, .i d, .i q] => AddAt S T n i d q
  | 3, [.t T, .i n] => Wf T n
  | 4, [.t L, .i m, .i x, .i b] => b ≠ 0 ↔ ∃ j, 0 ≤ j ∧ j < m ∧ L j 0 = x
  | 5, [.t L, .i m] => Acts L m
  | 11, [.t L, .i m] => ActsIn L m
  | 6, [.t S, .i m, .t T, .i n, .i i, .i q] => PathAt S m T n i q
  | 7, [.t L, .i k, .i x] => ∀ j, 0 ≤ j → j < k → L j 0 ≠ x
  | 8, [.t T, .i n, .i x, .i p, .i q] => x ∈ path T n p ↔ x ∈ path T n q
  | 9, [.t T, .i n, .i p, .i o, .i a, .i q] => FullAt T n p o a q
  | 10, [.t S, .t T, .i n, .i o, .i a, .i q] => SubAt S T n o a q
  | 12, [.t A, .i n, .t B, .i m, .i b] => b ≠ 0 ↔ n = m ∧ EqTo A B n
  | 13, [.t A, .i n, .t B, .i m, .i b] => b ≠ 0 ↔ n = m ∧ ButTo A B n
  | 14, [.t A, .t B, .i k] => EqTo A B k
  | 15, [.t A, .t B, .i k] => ButTo A B k
  | 16, [.t P, .t T, .i n] => PeaksAt P T n
  | 17, [.t P, .t T, .i n, .i k] => PeaksIn P T n k
  | 18, [.t _, .i n] => Small n
  | 19, [.t R, .i n] => Wf (exT R n) n
  | 22, [.t S, .i m, .t R, .i n, .i i, .i q] => PathAtF S m R n i q
  | 23, [.t R, .i n] => OwnRng R n
  | 24, [.t R, .t T, .i n] => RefOf R T n
  | 25, [.t R, .i n, .i i, .i b, .i k] => TightAt R n i b k
  | 26, [.t R, .i n, .i x, .i p, .i k] => NotFull R n x p k
  | 27, [.t R, .i k] => AllOpen R k
  | 28, [.t R, .i n, .i i, .i k] => NoKid R n i k
  | 31, [.t L, .i m] => IsL L m
  | 33, [.t R, .i n] => GivenR R n
  | 34, [.t R, .i n] => ¬ RightR R n
  | 35, [.t R, .i k] => RowsOk R k
  | 36, [.t R, .i n] => Top R n
  | 37, [.t X, .t T, .i n, .i i, .i q] => SmAt X T n i q
  | 38, [.t T, .i k] => ∀ r, 0 ≤ r → r < k → T r 5 ≤ T r 3
  | 39, [.t T, .i n, .i b] => b ≠ 0 ↔ ∃ r, 0 ≤ r ∧ r < n ∧ T r 3 < T r 5
  | 40, [.t R, .i n, .i k] => ∀ j, 0 < j → j < k → Opn R n j → Opn R n (R j 0)
  | 41, [.t R, .i n, .i k] => ∀ j, 0 ≤ j → j < k → Opn R n j → good R n j
  | 42, [.t R, .i n, .i k] => ∀ j, 0 ≤ j → j < k → Opn R n j → allR R n j ≤ R j 3
  | 20, [.i m] => 0 ≤ m ∧ m < N
  | 21, [.i m] => 0 ≤ m ∧ m < N + 1
  | _, _ => False
noncomputable def J (N : Nat) : Itp where
  fn := fun j a b c d => some (fixS (fs j) (Jfn j a b c d))
  pr := Jpr N

theorem J_tot (N : Nat) : (J N).tot fs := by
  intro j s hs a b c d
  refine ⟨_, rfl, ?_⟩
  rw [hs]
  cases s <;> cases Jfn j a b c d <;> trivial

variable {N : Nat}
theorem Jfn_0 {T : Tb} {n : Int} {i : Int} {e1 : D} : (J N).fn 0 (.t T) (.i n) (.i i) e1 = some (.i (if Opn T n i then 1 else 0)) := rfl
theorem Jfn_1 {T : Tb} {n : Int} {i : Int} {d : Int} : (J N).fn 1 (.t T) (.i n) (.i i) (.i d) = some (.t (addP T n i d)) := rfl
theorem Jfn_2 {T : Tb} {n : Int} {q : Int} {b : Int} : (J N).fn 2 (.t T) (.i n) (.i q) (.i b) = some (.i (tgt T n q b)) := rfl
theorem Jfn_3 {T : Tb} {n : Int} {i : Int} {e1 : D} : (J N).fn 3 (.t T) (.i n) (.i i) e1 = some (.i (meas T n i)) := rfl
theorem Jfn_4 {T : Tb} {n : Int} {i : Int} {e1 : D} : (J N).fn 4 (.t T) (.i n) (.i i) e1 = some (.i (err T n i)) := rfl
theorem Jfn_5 {T : Tb} {n : Int} {i : Int} {c : Int} : (J N).fn 5 (.t T) (.i n) (.i i) (.i c) = some (.i (val T n i c.toNat)) := rfl
theorem Jfn_6 {T : Tb} {n : Int} {i : Int} {e1 : D} : (J N).fn 6 (.t T) (.i n) (.i i) e1 = some (.i (tight T n i)) := rfl
theorem Jfn_7 {T : Tb} {n : Int} {i : Int} {e1 : D} : (J N).fn 7 (.t T) (.i n) (.i i) e1 = some (.i (head T n i)) := rfl
theorem Jfn_8 {T : Tb} {n : Int} {i : Int} {d : Int} : (J N).fn 8 (.t T) (.i n) (.i i) (.i d) = some (.i (chE T n i d)) := rfl
theorem Jfn_9 {T : Tb} {n : Int} {i : Int} {d : Int} : (J N).fn 9 (.t T) (.i n) (.i i) (.i d) = some (.t (chT T n i d)) := rfl
theorem Jfn_10 {T : Tb} {n : Int} {i : Int} {d : Int} : (J N).fn 10 (.t T) (.i n) (.i i) (.i d) = some (.i (giE T n i d)) := rfl
theorem Jfn_11 {T : Tb} {n : Int} {i : Int} {d : Int} : (J N).fn 11 (.t T) (.i n) (.i i) (.i d) = some (.t (giT T n i d)) := rfl
theorem Jfn_12 {T : Tb} {n : Int} {i : Int} {d : Int} : (J N).fn 12 (.t T) (.i n) (.i i) (.i d) = some (.i (slE T n i d)) := rfl
theorem Jfn_13 {T : Tb} {n : Int} {i : Int} {d : Int} : (J N).fn 13 (.t T) (.i n) (.i i) (.i d) = some (.t (slT T n i d)) := rfl
theorem Jfn_14 {T : Tb} {n : Int} {i : Int} {d : Int} : (J N).fn 14 (.t T) (.i n) (.i i) (.i d) = some (.i (cdE T n i d)) := rfl
theorem Jfn_15 {T : Tb} {n : Int} {i : Int} {d : Int} : (J N).fn 15 (.t T) (.i n) (.i i) (.i d) = some (.i (cdN T n i d)) := rfl
theorem Jfn_16 {T : Tb} {n : Int} {i : Int} {d : Int} : (J N).fn 16 (.t T) (.i n) (.i i) (.i d) = some (.t (cdT T n i d)) := rfl
theorem Jfn_17 {T : Tb} {n : Int} {i : Int} {d : Int} : (J N).fn 17 (.t T) (.i n) (.i i) (.i d) = some (.i (cdR T n i d)) := rfl
theorem Jfn_18 {T : Tb} {n : Int} {i : Int} {e1 : D} : (J N).fn 18 (.t T) (.i n) (.i i) e1 = some (.i (clE T n i)) := rfl
theorem Jfn_19 {T : Tb} {n : Int} {i : Int} {e1 : D} : (J N).fn 19 (.t T) (.i n) (.i i) e1 = some (.i (clN T n i)) := rfl
theorem Jfn_20 {T : Tb} {n : Int} {i : Int} {e1 : D} : (J N).fn 20 (.t T) (.i n) (.i i) e1 = some (.t (clT T n i)) := rfl
theorem Jfn_21 {T : Tb} {n : Int} {i : Int} {d : Int} : (J N).fn 21 (.t T) (.i n) (.i i) (.i d) = some (.i (mvE T n i d)) := rfl
theorem Jfn_22 {T : Tb} {n : Int} {i : Int} {d : Int} : (J N).fn 22 (.t T) (.i n) (.i i) (.i d) = some (.t (mvT T n i d)) := rfl
theorem Jfn_23 {T : Tb} {n : Int} {A : Tb} {e1 : D} : (J N).fn 23 (.t T) (.i n) (.t A) e1 = some (.i (doE T n (A 0 0) (A 0 1) (A 0 2))) := rfl
theorem Jfn_24 {T : Tb} {n : Int} {A : Tb} {e1 : D} : (J N).fn 24 (.t T) (.i n) (.t A) e1 = some (.i (doN T n (A 0 0) (A 0 1) (A 0 2))) := rfl
theorem Jfn_25 {T : Tb} {n : Int} {A : Tb} {e1 : D} : (J N).fn 25 (.t T) (.i n) (.t A) e1 = some (.t (doT T n (A 0 0) (A 0 1) (A 0 2))) := rfl
theorem Jfn_26 {T : Tb} {n : Int} {A : Tb} {e1 : D} : (J N).fn 26 (.t T) (.i n) (.t A) e1 = some (.i (doR T n (A 0 0) (A 0 1) (A 0 2))) := rfl
theorem Jfn_27 {T : Tb} {n : Int} {k : Int} {e1 : D} : (J N).fn 27 (.t T) (.i n) (.i k) e1 = some (.i (fc T n k)) := rfl
theorem Jfn_28 {l : Int} {L : Tb} {k : Int} {e1 : D} : (J N).fn 28 (.i l) (.t L) (.i k) e1 = some (.t (st l L k.toNat).1) := rfl
theorem Jfn_29 {l : Int} {L : Tb} {k : Int} {e1 : D} : (J N).fn 29 (.i l) (.t L) (.i k) e1 = some (.i (st l L k.toNat).2) := rfl
theorem Jfn_30 {T : Tb} {k : Int} {e1 : D} {e2 : D} : (J N).fn 30 (.t T) (.i k) e1 e2 = some (.t (svT T k)) := rfl
theorem Jfn_31 {T : Tb} {n : Int} {i : Int} {e1 : D} : (J N).fn 31 (.t T) (.i n) (.i i) e1 = some (.t (lstT (path T n i))) := rfl
theorem Jfn_32 {T : Tb} {n : Int} {i : Int} {e1 : D} : (J N).fn 32 (.t T) (.i n) (.i i) e1 = some (.i (path T n i).length) := rfl
theorem Jfn_33 {T : Tb} {n : Int} {e1 : D} {e2 : D} : (J N).fn 33 (.t T) (.i n) e1 e2 = some (.i (trimN T n)) := rfl
theorem Jfn_34 {T : Tb} {n : Int} {k : Int} {e1 : D} : (J N).fn 34 (.t T) (.i n) (.i k) e1 = some (.t (lstT (ovL T n k.toNat))) := rfl
theorem Jfn_35 {T : Tb} {n : Int} {k : Int} {e1 : D} : (J N).fn 35 (.t T) (.i n) (.i k) e1 = some (.i (ovL T n k.toNat).length) := rfl
theorem Jfn_36 {T : Tb} {n : Int} {i : Int} {d : Int} : (J N).fn 36 (.t T) (.i n) (.i i) (.i d) = some (.t (subP T n i d)) := rfl
theorem Jfn_37 {T : Tb} {n : Int} {i : Int} {e1 : D} : (J N).fn 37 (.t T) (.i n) (.i i) e1 = some (.i (size T n i)) := rfl
theorem Jfn_38 {T : Tb} {n : Int} {i : Int} {e1 : D} : (J N).fn 38 (.t T) (.i n) (.i i) e1 = some (.i (high T n i)) := rfl
theorem Jfn_39 {T : Tb} {n : Int} {i : Int} {k : Int} : (J N).fn 39 (.t T) (.i n) (.i i) (.i k) = some (.i (part T n i k)) := rfl
theorem Jfn_40 {T : Tb} {k : Int} {e1 e2 : D} : (J N).fn 40 (.t T) (.i k) e1 e2 = some (.t (preT T k)) := rfl
theorem Jfn_43 {R : Tb} {n i : Int} {e1 : D} : (J N).fn 43 (.t R) (.i n) (.i i) e1 = some (.t (lstT (pthL R n i))) := rfl
theorem Jfn_44 {R : Tb} {n i : Int} {e1 : D} : (J N).fn 44 (.t R) (.i n) (.i i) e1 = some (.i (pthL R n i).length) := rfl
theorem Jfn_45 {R : Tb} {n i : Int} {e1 : D} : (J N).fn 45 (.t R) (.i n) (.i i) e1 = some (.i (allR R n i)) := rfl
theorem Jfn_46 {R : Tb} {n : Int} {e1 e2 : D} : (J N).fn 46 (.t R) (.i n) e1 e2 = some (.t (exT R n)) := rfl
theorem Jfn_47 {R : Tb} {n i k : Int} : (J N).fn 47 (.t R) (.i n) (.i i) (.i k) = some (.i (allK R n i k.toNat)) := rfl
theorem Jfn_48 {R : Tb} {n k : Int} {e1 : D} : (J N).fn 48 (.t R) (.i n) (.i k) e1 = some (.t (peaksR R n k)) := rfl
theorem Jfn_41 {T : Tb} {n i k : Int} : (J N).fn 41 (.t T) (.i n) (.i i) (.i k) = some (.i (sumK T n i k)) := rfl
theorem Jfn_42 {T L : Tb} {k : Int} {e1 : D} : (J N).fn 42 (.t T) (.t L) (.i k) e1 = some (.t (allT T L k)) := rfl
theorem Jpr_0 {T : Tb} {n : Int} : (J N).pr 0 [.t T, .i n] = (Wt T n) := rfl
theorem Jpr_1 {T : Tb} {n : Int} {i : Int} {d : Int} : (J N).pr 1 [.t T, .i n, .i i, .i d] = (AddFits T n i d) := rfl
theorem Jpr_2 {S : Tb} {T : Tb} {n : Int} {i : Int} {d : Int} {q : Int} : (J N).pr 2 [.t S, .t T, .i n, .i i, .i d, .i q] = (AddAt S T n i d q) := rfl
theorem Jpr_3 {T : Tb} {n : Int} : (J N).pr 3 [.t T, .i n] = (Wf T n) := rfl
theorem Jpr_4 {L : Tb} {m : Int} {x : Int} {b : Int} : (J N).pr 4 [.t L, .i m, .i x, .i b] = (b ≠ 0 ↔ ∃ j, 0 ≤ j ∧ j < m ∧ L j 0 = x) := rfl
theorem Jpr_5 {L : Tb} {m : Int} : (J N).pr 5 [.t L, .i m] = (Acts L m) := rfl
theorem Jpr_11 {L : Tb} {m : Int} : (J N).pr 11 [.t L, .i m] = (ActsIn L m) := rfl
theorem Jpr_6 {S : Tb} {m : Int} {T : Tb} {n : Int} {i : Int} {q : Int} : (J N).pr 6 [.t S, .i m, .t T, .i n, .i i, .i q] = (PathAt S m T n i q) := rfl
theorem Jpr_7 {L : Tb} {k : Int} {x : Int} : (J N).pr 7 [.t L, .i k, .i x] = (∀ j, 0 ≤ j → j < k → L j 0 ≠ x) := rfl
theorem Jpr_8 {T : Tb} {n : Int} {x : Int} {p : Int} {q : Int} : (J N).pr 8 [.t T, .i n, .i x, .i p, .i q] = (x ∈ path T n p ↔ x ∈ path T n q) := rfl
theorem Jpr_9 {T : Tb} {n : Int} {p : Int} {o : Int} {a : Int} {q : Int} : (J N).pr 9 [.t T, .i n, .i p, .i o, .i a, .i q] = (FullAt T n p o a q) := rfl
theorem Jpr_10 {S : Tb} {T : Tb} {n : Int} {o : Int} {a : Int} {q : Int} : (J N).pr 10 [.t S, .t T, .i n, .i o, .i a, .i q] = (SubAt S T n o a q) := rfl
theorem Jpr_12 {A B : Tb} {n m b : Int} : (J N).pr 12 [.t A, .i n, .t B, .i m, .i b] = (b ≠ 0 ↔ n = m ∧ EqTo A B n) := rfl
theorem Jpr_13 {A B : Tb} {n m b : Int} : (J N).pr 13 [.t A, .i n, .t B, .i m, .i b] = (b ≠ 0 ↔ n = m ∧ ButTo A B n) := rfl
theorem Jpr_14 {A B : Tb} {k : Int} : (J N).pr 14 [.t A, .t B, .i k] = (EqTo A B k) := rfl
theorem Jpr_15 {A B : Tb} {k : Int} : (J N).pr 15 [.t A, .t B, .i k] = (ButTo A B k) := rfl
theorem Jpr_16 {P T : Tb} {n : Int} : (J N).pr 16 [.t P, .t T, .i n] = (PeaksAt P T n) := rfl
theorem Jpr_17 {P T : Tb} {n k : Int} : (J N).pr 17 [.t P, .t T, .i n, .i k] = (PeaksIn P T n k) := rfl
theorem Jpr_18 {R : Tb} {n : Int} : (J N).pr 18 [.t R, .i n] = (Small n) := rfl
theorem Jpr_19 {R : Tb} {n : Int} : (J N).pr 19 [.t R, .i n] = (Wf (exT R n) n) := rfl
theorem Jpr_22 {S R : Tb} {m n i q : Int} : (J N).pr 22 [.t S, .i m, .t R, .i n, .i i, .i q] = (PathAtF S m R n i q) := rfl
theorem Jpr_23 {R : Tb} {n : Int} : (J N).pr 23 [.t R, .i n] = (OwnRng R n) := rfl
theorem Jpr_24 {R T : Tb} {n : Int} : (J N).pr 24 [.t R, .t T, .i n] = (RefOf R T n) := rfl
theorem Jpr_25 {R : Tb} {n i b k : Int} : (J N).pr 25 [.t R, .i n, .i i, .i b, .i k] = (TightAt R n i b k) := rfl
theorem Jpr_26 {R : Tb} {n x p k : Int} : (J N).pr 26 [.t R, .i n, .i x, .i p, .i k] = (NotFull R n x p k) := rfl
theorem Jpr_27 {R : Tb} {k : Int} : (J N).pr 27 [.t R, .i k] = (AllOpen R k) := rfl
theorem Jpr_28 {R : Tb} {n i k : Int} : (J N).pr 28 [.t R, .i n, .i i, .i k] = (NoKid R n i k) := rfl
theorem Jfn_49 {T : Tb} {n i k : Int} : (J N).fn 49 (.t T) (.i n) (.i i) (.i k) = some (.t (lstT (partL T n i k))) := rfl
theorem Jfn_50 {T : Tb} {n i k : Int} : (J N).fn 50 (.t T) (.i n) (.i i) (.i k) = some (.i (partL T n i k).length) := rfl
theorem Jfn_51 {T : Tb} {n i : Int} {e1 : D} : (J N).fn 51 (.t T) (.i n) (.i i) e1 = some (.t (lstT (subL T n i))) := rfl
theorem Jfn_52 {T : Tb} {n i : Int} {e1 : D} : (J N).fn 52 (.t T) (.i n) (.i i) e1 = some (.i (subL T n i).length) := rfl
theorem Jpr_31 {L : Tb} {m : Int} : (J N).pr 31 [.t L, .i m] = (IsL L m) := rfl
theorem Jfn_53 {R : Tb} {n : Int} {e1 e2 : D} : (J N).fn 53 (.t R) (.i n) e1 e2 = some (.t (gdT R n)) := rfl
theorem Jfn_54 {n : Int} {e1 e2 e3 : D} : (J N).fn 54 (.i n) e1 e2 e3 = some (.i (ldE n)) := rfl
theorem Jfn_55 {S : Tb} {n i k : Int} : (J N).fn 55 (.t S) (.i n) (.i i) (.i k) = some (.t (wlK S n i k)) := rfl
theorem Jfn_56 {S : Tb} {n i : Int} {e1 : D} : (J N).fn 56 (.t S) (.i n) (.i i) e1 = some (.t (wlk S n i)) := rfl
theorem Jfn_57 {S : Tb} {n k : Int} {e1 : D} : (J N).fn 57 (.t S) (.i n) (.i k) e1 = some (.t (smT S n k)) := rfl
theorem Jfn_58 {R : Tb} {n k : Int} {e1 : D} : (J N).fn 58 (.t R) (.i n) (.i k) e1 = some (.i (opens R n k)) := rfl
theorem Jpr_33 {R : Tb} {n : Int} : (J N).pr 33 [.t R, .i n] = (GivenR R n) := rfl
theorem Jpr_34 {R : Tb} {n : Int} : (J N).pr 34 [.t R, .i n] = (¬ RightR R n) := rfl
theorem Jpr_35 {R : Tb} {k : Int} : (J N).pr 35 [.t R, .i k] = (RowsOk R k) := rfl
theorem Jpr_36 {R : Tb} {n : Int} : (J N).pr 36 [.t R, .i n] = (Top R n) := rfl
theorem Jpr_37 {X T : Tb} {n i q : Int} : (J N).pr 37 [.t X, .t T, .i n, .i i, .i q] = (SmAt X T n i q) := rfl
theorem Jpr_38 {T : Tb} {k : Int} : (J N).pr 38 [.t T, .i k] = (∀ r, 0 ≤ r → r < k → T r 5 ≤ T r 3) := rfl
theorem Jpr_39 {T : Tb} {n b : Int} : (J N).pr 39 [.t T, .i n, .i b] = (b ≠ 0 ↔ ∃ r, 0 ≤ r ∧ r < n ∧ T r 3 < T r 5) := rfl
theorem Jpr_40 {R : Tb} {n k : Int} : (J N).pr 40 [.t R, .i n, .i k] = (∀ j, 0 < j → j < k → Opn R n j → Opn R n (R j 0)) := rfl
theorem Jpr_41 {R : Tb} {n k : Int} : (J N).pr 41 [.t R, .i n, .i k] = (∀ j, 0 ≤ j → j < k → Opn R n j → good R n j) := rfl
theorem Jpr_42 {R : Tb} {n k : Int} : (J N).pr 42 [.t R, .i n, .i k] = (∀ j, 0 ≤ j → j < k → Opn R n j → allR R n j ≤ R j 3) := rfl
theorem Jpr_20 {m : Int} : (J N).pr 20 [.i m] = (0 ≤ m ∧ m < N) := rfl
theorem Jpr_21 {m : Int} : (J N).pr 21 [.i m] = (0 ≤ m ∧ m < N + 1) := rfl

theorem one_ne {P : Prop} [Decidable P] : ((if P then (1 : Int) else 0) ≠ 0) = P := by by_cases h : P <;> simp [h]
theorem one_eq {P : Prop} [Decidable P] : ((if P then (1 : Int) else 0) = 0) = ¬ P := by by_cases h : P <;> simp [h]
theorem act0 (k a b : Int) : tupd (tupd (tupd (fun _ _ => 0) 0 0 k) 0 1 a) 0 2 b 0 0 = k := rfl
theorem act1 (k a b : Int) : tupd (tupd (tupd (fun _ _ => 0) 0 0 k) 0 1 a) 0 2 b 0 1 = a := rfl
theorem act2 (k a b : Int) : tupd (tupd (tupd (fun _ _ => 0) 0 0 k) 0 1 a) 0 2 b 0 2 = b := rfl
theorem tn2 : Int.toNat 2 = 2 := rfl
theorem tn3 : Int.toNat 3 = 3 := rfl
theorem tn5 : Int.toNat 5 = 5 := rfl
theorem min_i64 : IntKind.i64.min = -9223372036854775808 := rfl
theorem max_i64 : IntKind.i64.max = 9223372036854775807 := rfl
theorem min_u8 : IntKind.u8.min = 0 := rfl
theorem max_u8 : IntKind.u8.max = 255 := rfl
theorem min_u16 : IntKind.u16.min = 0 := rfl
theorem max_u16 : IntKind.u16.max = 65535 := rfl

/-- The values of sorts, one by one. -/
theorem all_t {l : List Bool} {Q : List D → Prop} (h : ∀ T ds, Sorts l ds → Q (.t T :: ds)) : ∀ ds, Sorts (true :: l) ds → Q ds := by
  intro ds hs
  cases ds with
  | nil => exact hs.elim
  | cons d ds => cases d with
    | t T => exact h T ds hs
    | i n => exact hs.elim
theorem all_i {l : List Bool} {Q : List D → Prop} (h : ∀ n ds, Sorts l ds → Q (.i n :: ds)) : ∀ ds, Sorts (false :: l) ds → Q ds := by
  intro ds hs
  cases ds with
  | nil => exact hs.elim
  | cons d ds => cases d with
    | t T => exact hs.elim
    | i n => exact h n ds hs
theorem all_n {Q : List D → Prop} (h : Q []) : ∀ ds, Sorts [] ds → Q ds := by
  intro ds hs
  cases ds with
  | nil => exact h
  | cons d ds => exact hs.elim
end Go.Proofs.Ytafipmoglaepcaa.Ac
