/-
  What the functions of account do, as plain functions on tables. Conditions: none.
-/
import Derived.Test.YtafipmoglaepcaaSxDefs
import Derived.Test.YtafipmoglaepcaaAcTree
namespace Go.Proofs.Ytafipmoglaepcaa.Ac
open Go.Sx (tupd)

def room (T : Tb) (p : Int) : Int := T p 1 - T p 5
noncomputable def tgt (T : Tb) (n q b : Int) : Int := (path T n q).foldl (fun b p => if room T p < room T b then p else b) b
def err (T : Tb) (n i : Int) : Int := if Opn T n i then 0 else 4
def val (T : Tb) (n i : Int) (c : Nat) : Int := if Opn T n i then T i c else 0
noncomputable def tight (T : Tb) (n i : Int) : Int := if Opn T n i then tgt T n i i else 0
noncomputable def head (T : Tb) (n i : Int) : Int := if Opn T n i then (if 0 > room T (tgt T n i i) then 0 else room T (tgt T n i i)) else 0
def outs (d : Int) : Prop := d < 0 ∨ d > 4096
instance (d : Int) : Decidable (outs d) := inferInstanceAs (Decidable (_ ∨ _))

noncomputable def chE (T : Tb) (n i d : Int) : Int := if ¬ Opn T n i then 4 else if outs d then 7 else if d > head T n i then 5 else 0
noncomputable def chT (T : Tb) (n i d : Int) : Tb := if chE T n i d = 0 then addP (tupd T i 2 (T i 2 + d)) n i d else T
def giE (T : Tb) (n i d : Int) : Int := if ¬ Opn T n i then 4 else if outs d then 7 else if d > T i 2 then 9 else 0
noncomputable def giT (T : Tb) (n i d : Int) : Tb := if giE T n i d = 0 then addP (tupd T i 2 (T i 2 - d)) n i (0 - d) else T
def slE (T : Tb) (n i d : Int) : Int := if ¬ Opn T n i then 4 else if outs d then 7 else 0
def slT (T : Tb) (n i d : Int) : Tb := if slE T n i d = 0 then tupd T i 1 d else T

/-- The first closed row from k on; -1: none. -/
def fcF (T : Tb) (n : Int) : Nat → Int → Int
  | 0, _ => -1
  | f + 1, k => if k < n then (if T k 4 ≠ 0 then k else fcF T n f (k + 1)) else -1
def fc (T : Tb) (n k : Int) : Int := fcF T n (n - k).toNat k
def fcN (T : Tb) (n : Int) : Int := if fc T n 0 < 0 then n else fc T n 0
def row6 (T : Tb) (i a b c d e f : Int) : Tb := tupd (tupd (tupd (tupd (tupd (tupd T i 0 a) i 1 b) i 2 c) i 3 d) i 4 e) i 5 f
def cdE (T : Tb) (n p l : Int) : Int := if ¬ Opn T n p then 4 else if outs l then 7 else if fc T n 0 < 0 ∧ n = 64 then 5 else 0
def cdN (T : Tb) (n p l : Int) : Int := if cdE T n p l = 0 ∧ fc T n 0 < 0 then n + 1 else n
def cdT (T : Tb) (n p l : Int) : Tb := if cdE T n p l = 0 then row6 T (fcN T n) p l 0 0 0 0 else T
def cdR (T : Tb) (n p l : Int) : Int := if cdE T n p l = 0 then fcN T n else 0

/-- Closed rows at the end are cut off. -/
def trimF (T : Tb) : Nat → Int
  | 0 => 0
  | m + 1 => if T m 4 ≠ 0 then trimF T m else m + 1
def trimN (T : Tb) (n : Int) : Int := trimF T n.toNat
/-- Has a node children? -/
def hasKid (T : Tb) (n i : Int) : Prop := ∃ k, Opn T n k ∧ 0 < k ∧ T k 0 = i
open Classical in
noncomputable def clE (T : Tb) (n i : Int) : Int := if ¬ Opn T n i then 4 else if i = 0 then 2 else if hasKid T n i ∨ T i 2 ≠ 0 then 9 else 0
noncomputable def clT (T : Tb) (n i : Int) : Tb := if clE T n i = 0 then row6 T i (-1) 0 0 0 1 0 else T
noncomputable def clN (T : Tb) (n i : Int) : Int := if clE T n i = 0 then trimN (row6 T i (-1) 0 0 0 1 0) n else n

/-- Taken away along a path. -/
noncomputable def subP (T : Tb) (n i d : Int) : Tb := fun r c => if r ∈ path T n i ∧ c = 5 then T r 5 - d else T r c
/-- A node of p's path that is not on o's has no room for a. -/
def tooFull (T : Tb) (n p o a : Int) : Prop := ∃ q ∈ path T n p, a > 0 ∧ a > room T q ∧ q ∉ path T n o
open Classical in
noncomputable def mvE (T : Tb) (n x p : Int) : Int :=
  if ¬ Opn T n x ∨ ¬ Opn T n p then 4 else if x = 0 then 2 else if x ∈ path T n p then 6 else if tooFull T n p (T x 0) (T x 5) then 5 else 0
noncomputable def mvT (T : Tb) (n x p : Int) : Tb := if mvE T n x p = 0 then addP (tupd (subP T n (T x 0) (T x 5)) x 0 p) n p (T x 5) else T

/-- A call: A's row 0 holds its kind and its two numbers. -/
noncomputable def doE (T : Tb) (n : Int) (k a b : Int) : Int :=
  if k % 8 = 0 then cdE T n a b else if k % 8 = 1 then clE T n a else if k % 8 = 5 then giE T n a b else if k % 8 = 6 then slE T n a b else if k % 8 = 7 then mvE T n a b else chE T n a b
noncomputable def doT (T : Tb) (n : Int) (k a b : Int) : Tb :=
  if k % 8 = 0 then cdT T n a b else if k % 8 = 1 then clT T n a else if k % 8 = 5 then giT T n a b else if k % 8 = 6 then slT T n a b else if k % 8 = 7 then mvT T n a b else chT T n a b
noncomputable def doN (T : Tb) (n : Int) (k a b : Int) : Int := if k % 8 = 0 then cdN T n a b else if k % 8 = 1 then clN T n a else n
def doR (T : Tb) (n : Int) (k a b : Int) : Int := if k % 8 = 0 then cdR T n a b else 0

/-- New budgets. -/
def newT (l : Int) : Tb := row6 (fun _ _ => 0) 0 (-1) l 0 0 0 0
/-- After the first k calls of a list. -/
noncomputable def st (l : Int) (L : Tb) : Nat → Tb × Int
  | 0 => (newT l, 1)
  | k + 1 => let s := st l L k; (doT s.1 s.2 (L k 0) (L k 1) (L k 2), doN s.1 s.2 (L k 0) (L k 1) (L k 2))

/-! ### Tables that stand for lists -/

def lstT (l : List Int) : Tb := fun r c => if 0 ≤ r ∧ c = 0 then l.getD r.toNat 0 else 0
def svT (T : Tb) (k : Int) : Tb := fun r c => if 0 ≤ r ∧ r < k ∧ c < 5 then T r c else 0
def ovL (T : Tb) (n : Int) : Nat → List Int
  | 0 => []
  | k + 1 => if Opn T n k ∧ room T k < 0 then ovL T n k ++ [(k : Int)] else ovL T n k
/-- On the way of a list along a path. -/
def PathAt (S : Tb) (m : Int) (T : Tb) (n i q : Int) : Prop := ∃ l, path T n i = l ++ path T n q ∧ S = lstT l ∧ m = l.length
def SubAt (S T : Tb) (n o a q : Int) : Prop :=
  (∀ r ∈ path T n q, r ∈ path T n o ∧ ∀ c, S r c = T r c) ∧ ∀ r, r ∉ path T n q → ∀ c, S r c = subP T n o a r c
def FullAt (T : Tb) (n p o a q : Int) : Prop :=
  (∀ r ∈ path T n q, r ∈ path T n p) ∧ ∀ r ∈ path T n p, r ∉ path T n q → ¬ (a > 0 ∧ a > room T r ∧ r ∉ path T n o)
/-- How many nodes lie below a node, itself with them; those below its children up to k; how much higher than the deepest. -/
noncomputable def size (T : Tb) (n i : Int) : Int := sumN (fun j => if Opn T n j ∧ i ∈ path T n j then 1 else 0) n.toNat
noncomputable def part (T : Tb) (n i k : Int) : Int := 1 + sumN (fun j => if Opn T n j ∧ 0 < (j : Int) ∧ T j 0 = i then size T n j else 0) k.toNat
noncomputable def high (T : Tb) (n i : Int) : Int := 64 - (path T n i).length
def Acts (L : Tb) (m : Int) : Prop := 0 ≤ m ∧ m ≤ 1000 ∧ ∀ k, 0 ≤ k → k < m → 0 ≤ L k 0 ∧ L k 0 ≤ 255
/-- .. however many. -/
def ActsIn (L : Tb) (m : Int) : Prop := 0 ≤ m ∧ ∀ k, 0 ≤ k → k < m → 0 ≤ L k 0 ∧ L k 0 ≤ 255

/-- A table's first rows; what nodes of a list have; a node's own and what its children up to k have. -/
def preT (T : Tb) (k : Int) : Tb := fun r c => if 0 ≤ r ∧ r < k ∧ c = 0 then T r c else 0
def allT (T L : Tb) (k : Int) : Tb := fun r c => if 0 ≤ r ∧ r < k ∧ c = 0 then T (L r 0) 5 else 0
def sumK (T : Tb) (n i k : Int) : Int := T i 2 + sumN (fun j => if Opn T n j ∧ 0 < (j : Int) ∧ T j 0 = i then T j 5 else 0) k.toNat
/-- Rows of states, compared. -/
def EqRow (A B : Tb) (r : Int) : Prop := A r 0 = B r 0 ∧ A r 1 = B r 1 ∧ A r 2 = B r 2 ∧ A r 3 = B r 3 ∧ (A r 4 ≠ 0 ↔ B r 4 ≠ 0)
def ButRow (A B : Tb) (r : Int) : Prop := B r 3 ≤ A r 3 ∧ A r 0 = B r 0 ∧ A r 1 = B r 1 ∧ A r 2 = B r 2 ∧ (A r 4 ≠ 0 ↔ B r 4 ≠ 0)
def EqTo (A B : Tb) (k : Int) : Prop := ∀ r, 0 ≤ r → r < k → EqRow A B r
def ButTo (A B : Tb) (k : Int) : Prop := ∀ r, 0 ≤ r → r < k → ButRow A B r
/-- The peaks that a law keeps: of each open node; up to k, the rest from sums. -/
def PeaksAt (P T : Tb) (n : Int) : Prop := ∀ i, Opn T n i → P i 0 = T i 3
def PeaksIn (P T : Tb) (n k : Int) : Prop := ∀ i, Opn T n i → (i < k → P i 0 = T i 3) ∧ (k ≤ i → max (P i 0) (T i 5) = T i 3)

/-! ### What is right of budgets -/

structure Wf (T : Tb) (n : Int) : Prop extends Wt T n where
  last : T (n - 1) 4 = 0
  cl : ∀ i, 0 ≤ i → i < n → T i 4 ≠ 0 → T i 4 = 1 ∧ T i 0 = -1 ∧ T i 1 = 0 ∧ T i 2 = 0 ∧ T i 3 = 0 ∧ T i 5 = 0
  rng : ∀ i, Opn T n i → 0 ≤ T i 1 ∧ T i 1 ≤ 4096 ∧ 0 ≤ T i 2 ∧ 0 ≤ T i 5 ∧ T i 5 ≤ T i 3 ∧ T i 3 ≤ 4096
  sums : ∀ i, Opn T n i → df T n i = 0
end Go.Proofs.Ytafipmoglaepcaa.Ac
