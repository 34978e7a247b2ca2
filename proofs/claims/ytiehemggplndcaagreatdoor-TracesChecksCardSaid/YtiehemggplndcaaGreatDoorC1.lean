/-
  What texts of programs are, in plain words: what the signs of the contracts' formulas mean. Conditions: none; nothing here speaks of a program.
-/
import Derived.Lib.Join
import Derived.Test.YtiehemggplndcaaGreatDoorB1
import Derived.Test.YtiehemggplndcaaGreatDoorA1
import Derived.Test.YtiehemggplndcaaGreatDoorA2
import Derived.Lib.DecodeN
import Derived.Lib.FieldsU
import Derived.KernelRfl
namespace Go.Tt
open Go Go.Sx Go.Lib Go.Sf
abbrev Tb := Int → Nat → Int
def kG (T : Tb) (n sep : Int) : Int := qZ (Lib.join ((List.range n.toNat).map fun r : Nat => qj (T (r : Int) 0)) (qj sep))
def WI (s sep : Int) : Tb := fun r _ => qZ ((Lib.split (qj s) (qj sep)).getD r.toNat [])
def Qi (s sep : Int) : Int := ((Lib.split (qj s) (qj sep)).length : Nat)
def trimS (s p : Int) : Int := qZ (Lib.trimPrefix (qj s) (qj p))
def hpre (s p : Int) : Int := if Lib.hasPrefix (qj s) (qj p) = true then 1 else 0
def wR (l : List UInt8) : Int := match parseIntB 64 l with
 | .ok v => v
 | .range => intSat 64 l
 | _ => 0
def bA (l : List UInt8) : Int := match parseIntB 64 l with
 | .ok _ => 0
 | _ => 1
def fA (l : List UInt8) : Nat → Int
 | 0 => 0
 | i + 1 =>
   let c : Int := (((l[i]?).getD 0).toNat : Nat)
   if 48 ≤ c ∧ c ≤ 57 then
     let d := IntKind.i64.wrap (IntKind.u8.wrap (c - 48))
     IntKind.i64.wrap (IntKind.i64.wrap (10 * fA l i) + if ((((l[0]?).getD 0).toNat : Nat) : Int) = 45 then -d else d)
   else fA l i
def jN (s : Int) : Int := if xM (qj s) then 1 else 0
def gJ (T : Tb) (ws : List (List UInt8)) (n : Int) : Prop := ∀ r : Nat, (r : Int) < n → T r 0 = 0 ∧ ∀ w, ws[r]? = some w → T r 1 = qZ w
def mq (s n e : Int) : Prop := (e = 0 ∧ I64 n ∧ qj s = itoa n) ∨ (e ≠ 0 ∧ ∀ m, I64 m → qj s ≠ itoa m)
def R8 (s a r : Int) : Prop := qh s a ≠ 34 → (∀ j, a ≤ j → j < r → qh s j ≠ 32) ∧ (r = qy s ∨ qh s r = 32)
def NoB (s a i : Int) : Prop := qh s a ≠ 34 → ∀ j, a ≤ j → j < i → qh s j ≠ 32
def Bp (s b : Int) : Prop := b ≠ 0 ↔ (qj s).length ≤ 200 ∧ ∀ c ∈ qj s, 32 ≤ c.toNat ∧ c.toNat ≤ 126
def pI (q s b : Int) : Prop := q = 0 → (b ≠ 0 ↔ ji (qj s))
def yX (s : Int) (T : Tb) (n e : Int) : Prop :=
 (∀ ws, Bare ws → ws.length ≤ 64 → qy s ≤ 4096 → qj s = qI ws → e = 0 ∧ n = (ws.length : Nat) ∧ gJ T ws n) ∧
 (e = 0 → (∀ r : Nat, (r : Int) < n → T r 0 = 0) → ∃ ws, Bare ws ∧ ws.length ≤ 64 ∧ n = (ws.length : Nat) ∧ qj s = qI ws ∧ gJ T ws n)
def Bt (s a : Int) (T : Tb) (n : Int) : Prop := ∀ ws, Bare ws → qj s = qI ws → ∃ k : Nat, n = k ∧ k ≤ ws.length ∧ gJ T ws n ∧ (if k < ws.length then (qj s).drop a.toNat = qI (ws.drop k) ∧ a < qy s else qy s ≤ a)
def Br (s a : Int) (T : Tb) (n : Int) : Prop := (∀ r : Nat, (r : Int) < n → T r 0 = 0) → ∃ ws, Bare ws ∧ n = (ws.length : Nat) ∧ gJ T ws n ∧
 ((a = 0 ∧ ws = []) ∨ (0 < a ∧ a < qy s ∧ (qj s).take a.toNat = tY ws) ∨ (a = qy s + 1 ∧ qj s = qI ws))
def dep (n : Int) : Nat := 2 * nDigits n.natAbs + if n < 0 then 1 else 0
def Short (T : Tb) (n sep : Int) : Prop := n ≤ 1000 ∧ qy sep ≤ 1000 ∧ ∀ r : Nat, (r : Int) < n → qy (T r 0) ≤ 1000
def yK (T : Tb) (lo n bad s lo' n' bad' : Int) : Prop :=
 (0 < n ∧ T lo 0 = 0 ∧ s = T lo 1 ∧ lo' = lo + 1 ∧ n' = n - 1 ∧ bad' = bad) ∨ (¬ (0 < n ∧ T lo 0 = 0) ∧ s = 0 ∧ lo' = lo ∧ n' = n ∧ bad' = 1)
def dF (T : Tb) (lo n bad x lo' n' bad' : Int) : Prop :=
 ∃ s b e, yK T lo n bad s lo' n' b ∧ mq s x e ∧ bad' = if b ≠ 0 ∨ e ≠ 0 then 1 else 0
def stp (k a m x y z w n : Int) : Sp := ⟨k.toNat, qj a, qj m, x, y, z, w, n⟩
def wE (k a m x y z w n e : Int) : Prop := e = wM k (qj a) (qj m) x y z w n
def Jv (k a m x y z w n s : Int) : Prop := wM k (qj a) (qj m) x y z w n = 0 → s = qZ (stp k a m x y z w n).line
def jL (s k a m x y z w n b : Int) : Prop :=
 (b ≠ 0 ∧ 0 ≤ k ∧ (stp k a m x y z w n).Norm ∧ (stp k a m x y z w n).NB ∧ qj s = (stp k a m x y z w n).line) ∨
 (b = 0 ∧ ∀ t : Sp, t.Norm → t.NB → qj s ≠ t.line)
def IxI (s v q u : Int) : Prop := v = 0 → (∀ j, 0 ≤ j → j < q → qh s j < 128 ∧ qh s j ≠ 34) → u = 0 ∧ ∀ j, 0 ≤ j → j < q → qh s j ≠ 32
def IxP (s v r u : Int) : Prop := (r = -1 ∧ IxI s v (qy s) u) ∨ (0 ≤ r ∧ r < qy s ∧ qh s r = 32 ∧ IxI s v r u)
def PcI (s r v : Int) (T : Tb) (n : Int) : Prop :=
 (∀ ws, Bare ws → qj s = qI ws → ∃ k : Nat, n = k ∧ k < ws.length ∧ gJ T ws n ∧ v = 0 ∧ qj r = qI (ws.drop k)) ∧
 ((∀ r : Nat, (r : Int) < n → T r 0 = 0) → v = 0 ∧ ∃ ws, Bare ws ∧ n = (ws.length : Nat) ∧ gJ T ws n ∧ qj s = tY ws ++ qj r)
def Fu (s p : Int) : Int := if Lib.hasSuffix (qj s) (qj p) = true then 1 else 0
def RO (s c : Int) : Int := ((qj s).count (UInt8.ofNat c.toNat) : Nat)
def hasB (s c : Int) : Int := if UInt8.ofNat c.toNat ∈ qj s then 1 else 0
def IZ (s l b : Int) : Prop := b ≠ 0 ↔ ∀ c ∈ qj s, l ≤ (c.toNat : Nat) ∧ c.toNat ≤ 126
def F6 (s l i : Int) : Prop := ∀ j, 0 ≤ j → j < i → l ≤ qh s j ∧ qh s j ≤ 126
def lJ (c : Int) : Prop := (97 ≤ c ∧ c ≤ 122) ∨ (65 ≤ c ∧ c ≤ 90)
def F7 (c : Int) : Prop := lJ c ∨ (48 ≤ c ∧ c ≤ 57) ∨ c = 95
def NmI (s i : Int) : Prop := ∀ j, 0 ≤ j → j < i → F7 (qh s j) ∧ (j = 0 → lJ (qh s j))
def OkP (k a m x y z w n : Int) : Prop := wM k (qj a) (qj m) x y z w n = 0
def spR (T : Tb) (r : Int) : Sp := stp (T r 0) (T r 1) (T r 2) (T r 3) (T r 4) (T r 5) (T r 6) (T r 7)
def TbR (T : Tb) (n : Int) : Prop := ∀ r, 0 ≤ r → r < n → I64 (T r 0) ∧ I64 (T r 3) ∧ I64 (T r 4) ∧ I64 (T r 5) ∧ I64 (T r 6) ∧ I64 (T r 7)
def Ie (T : Tb) (n : Int) : Prop := TbR T n ∧ ∀ r, 0 ≤ r → r < n → qy (T r 1) ≤ 100000 ∧ qy (T r 2) ≤ 100000
def Has (T : Tb) (i k a m : Int) : Prop := ∃ j, 0 ≤ j ∧ j < i ∧ T j 0 = k ∧ T j 1 = a ∧ T j 2 = m
def Made (T : Tb) (i a : Int) : Prop := ∃ j, 0 ≤ j ∧ j < i ∧ T j 0 = 1 ∧ T j 1 = a
def kof : Nat → Int
 | 3 | 7 | 8 => 3
 | 4 | 5 => 4
 | _ => 0
open Classical in
noncomputable def wS (A N : Prop) (k e : Int) : Int :=
 if e ≠ 0 then e
 else if (kar k.toNat = 1 ∧ A) ∨ (knm k.toNat = 1 ∧ N) then 8
 else if (kar k.toNat = 2 ∧ ¬ A) ∨ (knm k.toNat = 2 ∧ ¬ N) then 4 else 0
noncomputable def FE (T : Tb) (i k a m x y z w n : Int) : Int := wS (Made T i a) (Has T i (kof k.toNat) a m) k (wM k (qj a) (qj m) x y z w n)
noncomputable def Jy (T : Tb) (i : Int) : Int := FE T i (T i 0) (T i 1) (T i 2) (T i 3) (T i 4) (T i 5) (T i 6) (T i 7)
def OkI (T : Tb) (i : Int) : Prop := ∀ j, 0 ≤ j → j < i → Jy T j = 0
def InM (M : Tb) (m k a b : Int) : Prop := ∃ r, 0 ≤ r ∧ r < m ∧ M r 0 = k ∧ M r 1 = a ∧ M r 2 = b
def F8 (M : Tb) (mm k a m x y z w n e : Int) : Prop := e = wS (InM M mm 1 a 0) (InM M mm (kof k.toNat) a m) k (wM k (qj a) (qj m) x y z w n)
def J5 (T : Tb) (i : Int) (M : Tb) (mm : Int) : Prop := OkI T i ∧ (∀ a, InM M mm 1 a 0 ↔ Made T i a) ∧ ∀ k a m, k = 3 ∨ k = 4 → (InM M mm k a m ↔ Has T i k a m)
def right (L A K : Int) : Prop := (0 ≤ L ∧ L ≤ 4096) ∧ (0 ≤ A ∧ A ≤ 1000000000000) ∧ (0 ≤ K ∧ K ≤ 1024)
def J6 (L A K : Int) (T : Tb) (n st e : Int) : Prop :=
 (500 < n ∧ st = -1 ∧ e = 3) ∨ (n ≤ 500 ∧ ¬ right L A K ∧ st = -1 ∧ e = 7) ∨
 (n ≤ 500 ∧ right L A K ∧ ((st = 0 ∧ e = 0 ∧ OkI T n) ∨ (0 ≤ st ∧ st < n ∧ e ≠ 0 ∧ e = Jy T st ∧ OkI T st)))
def qqN (T : Tb) (i k a m x y z w n e : Int) : Prop := e = FE T i k a m x y z w n
def IK (T : Tb) (n a b : Int) : Prop := b ≠ 0 ↔ Made T n a
def IY (T : Tb) (n k a m r : Int) : Prop := 0 ≤ r ↔ Has T n k a m
def LnP (k a m x y z w n s e : Int) : Prop := e = wM k (qj a) (qj m) x y z w n ∧ (e = 0 → s = qZ (stp k a m x y z w n).line) ∧ (e ≠ 0 → s = 0)
def jh (T : Tb) (ws : List (List UInt8)) (n : Int) : Prop := n = (ws.length : Nat) ∧ ∀ (r : Nat) (w : List UInt8), ws[r]? = some w → T r 0 = qZ w
def Ia (s : Int) (T : Tb) (n b : Int) : Prop :=
 (b ≠ 0 → ∃ ws, Bare ws ∧ ws.length ≤ 64 ∧ qj s = qI ws ∧ jh T ws n) ∧ (b = 0 → ∀ ws, Bare ws → ws.length ≤ 64 → qy s ≤ 4096 → qj s ≠ qI ws)
def F3 (T : Tb) (i : Int) (U : Tb) (m : Int) : Prop := m = i ∧ ∀ r : Nat, (r : Int) < i → T r 0 = 0 ∧ U r 0 = T r 1
def KwI (T : Tb) (q k : Int) : Prop := (k = 0 ∧ ∀ j : Nat, 1 ≤ j → (j : Int) < q → T 0 0 ≠ qZ (kw.getD j [])) ∨ (1 ≤ k ∧ k < q ∧ T 0 0 = qZ (kw.getD k.toNat []))
def Bu (s x : Int) : Prop := I64 x ∧ qj s = itoa x
def dD (T : Tb) (lo i x y z : Int) : Prop := (if 0 < i then Bu (T lo 0) x else x = 0) ∧ (if 1 < i then Bu (T (lo + 1) 0) y else y = 0) ∧ (if 2 < i then Bu (T (lo + 2) 0) z else z = 0)
def mJ : List UInt8 := [109, 97, 110, 97, 103, 101, 114]
def headW (L A K : Int) : List UInt8 := qI [mJ, itoa L, itoa A, itoa K]
def qzZ (s L A K b : Int) : Prop :=
 (b ≠ 0 ∧ I64 L ∧ I64 A ∧ I64 K ∧ qj s = headW L A K) ∨ (b = 0 ∧ ∀ L A K, I64 L → I64 A → I64 K → qj s ≠ headW L A K)
def gK (s : Int) (t : Sp) : Prop := t.Norm ∧ t.NB ∧ qj s = t.line
def qyl (s k a m x y z w n e : Int) : Prop :=
 (∃ t : Sp, gK s t ∧ e = wM t.k t.a t.m t.x t.y t.z t.w t.n ∧ (e = 0 → 0 ≤ k ∧ stp k a m x y z w n = t) ∧ (e ≠ 0 → k = 0 ∧ a = 0 ∧ m = 0 ∧ x = 0 ∧ y = 0 ∧ z = 0 ∧ w = 0 ∧ n = 0)) ∨
 ((∀ t : Sp, ¬ gK s t) ∧ e = 6 ∧ k = 0 ∧ a = 0 ∧ m = 0 ∧ x = 0 ∧ y = 0 ∧ z = 0 ∧ w = 0 ∧ n = 0)
def jm (ls : List (List UInt8)) : List UInt8 := ls.flatMap fun l => l ++ [10]
def pO (ls : List (List UInt8)) : Prop := ∀ l ∈ ls, (10 : UInt8) ∉ l
def XC (s : Int) (T : Tb) (n e : Int) : Prop :=
 (∃ ls, pO ls ∧ qj s = jm ls ∧ ((ls.length ≤ 5000 ∧ e = 0 ∧ jh T ls n) ∨ (5000 < ls.length ∧ e = 3 ∧ n = 0))) ∨ ((∀ ls, pO ls → qj s ≠ jm ls) ∧ e = 6 ∧ n = 0)
def pE (s p i : Int) (T : Tb) (n : Int) : Prop := ∃ ls, pO ls ∧ (qj s).take p.toNat = jm ls ∧ jh T ls n ∧ ∀ j, p ≤ j → j < i → qh s j ≠ 10
def iM (L A K : Int) (T : Tb) (n : Nat) : List (List UInt8) := headW L A K :: (List.range n).map fun r : Nat => (spR T r).line
def XT (L A K : Int) (T : Tb) (n s e : Int) : Prop := (∃ st, J6 L A K T n st e) ∧ (e = 0 → s = qZ (jm (iM L A K T n.toNat))) ∧ (e ≠ 0 → s = 0)
def PrI (L A K : Int) (T : Tb) (i : Int) (U : Tb) (m : Int) : Prop := jh U (iM L A K T i.toNat) m
def PrJ (L A K : Int) (T : Tb) (i s : Int) : Prop := s = qZ (jm (iM L A K T i.toNat))
def Bl (T : Tb) (ls : List (List UInt8)) : Prop := ∀ (r : Nat) (l : List UInt8), ls[r]? = some l → 0 ≤ T r 0 ∧ gK (qZ l) (spR T r)
def aV (L A K n : Int) : Prop := L = 0 ∧ A = 0 ∧ K = 0 ∧ n = 0
def oG (s L A K : Int) (T : Tb) (n line e : Int) : Prop :=
 (∃ h ls st, pO (h :: ls) ∧ qj s = jm (h :: ls) ∧ ls.length < 5000 ∧ ∃ L' A' K' T', I64 L' ∧ I64 A' ∧ I64 K' ∧ h = headW L' A' K' ∧ Bl T' ls ∧ J6 L' A' K' T' (ls.length : Nat) st e ∧
   ((e = 0 ∧ L = L' ∧ A = A' ∧ K = K' ∧ n = (ls.length : Nat) ∧ (∀ r : Nat, r < ls.length → ∀ c < 8, T r c = T' r c) ∧ line = 0) ∨ (e ≠ 0 ∧ aV L A K n ∧ line = st + 2))) ∨
 (∃ h ls i, pO (h :: ls) ∧ qj s = jm (h :: ls) ∧ ls.length < 5000 ∧ (∃ L' A' K', I64 L' ∧ I64 A' ∧ I64 K' ∧ h = headW L' A' K') ∧ (∃ T', Bl T' (ls.take i)) ∧ (∃ l, ls[i]? = some l ∧ ∀ t, ¬ gK (qZ l) t) ∧ e = 6 ∧ aV L A K n ∧ line = i + 2) ∨
 (∃ ls, pO ls ∧ qj s = jm ls ∧ ls.length ≤ 5000 ∧ (∀ h, ls.head? = some h → ∀ L' A' K', I64 L' → I64 A' → I64 K' → h ≠ headW L' A' K') ∧ e = 6 ∧ aV L A K n ∧ line = 1) ∨
 (∃ ls, pO ls ∧ qj s = jm ls ∧ 5000 < ls.length ∧ e = 3 ∧ aV L A K n ∧ line = 0) ∨
 ((∀ ls, pO ls → qj s ≠ jm ls) ∧ e = 6 ∧ aV L A K n ∧ line = 0)
def IJ (U : Tb) (T : Tb) (i : Int) : Prop := ∀ r : Nat, (r : Int) < i → 0 ≤ T r 0 ∧ gK (U (r + 1) 0) (spR T r)
def IQ (L A K : Int) (T : Tb) (n L' A' K' : Int) (T' : Tb) (n' b : Int) : Prop := b ≠ 0 ↔ L = L' ∧ A = A' ∧ K = K' ∧ n = n' ∧ ∀ r : Nat, (r : Int) < n → ∀ c < 8, T r c = T' r c
def qze (T T' : Tb) (i : Int) : Prop := ∀ r : Nat, (r : Int) < i → ∀ c < 8, T r c = T' r c
def R7 (T : Tb) (n b : Int) : Prop := b = 0 → (n ≤ 60 ∨ 500 < n) ∧ n ≤ 600 ∧ ∀ r, 0 ≤ r → r < n → qy (T r 1) ≤ 100 ∧ qy (T r 2) ≤ 100
def IX (T : Tb) (i : Int) : Prop := ∀ r, 0 ≤ r → r < i → qy (T r 1) ≤ 100 ∧ qy (T r 2) ≤ 100
def u1 (k : Nat) : Int := if kar k = 0 then 23 else if kar k = 1 then -56 else 56
def u2 (k : Nat) : Int := if knm k = 0 then 23 else if knm k = 1 then (if k = 3 then -12728 else -14136) else if k = 5 then 14136 else 12728
def qgk (T : Tb) : Prop := ∀ k : Nat, 1 ≤ k → k ≤ 13 → T k 0 = qZ (kw.getD k []) ∧ T k 1 = u1 k ∧ T k 2 = u2 k ∧ T k 3 = (qW k : Nat)
def NbI (s i : Int) : Prop := ∀ j, 0 ≤ j → j < i → qh s j ≠ 32 ∧ qh s j ≠ 34
def R9 (s i : Int) : Prop := ∀ j, 0 ≤ j → j < i → 48 ≤ qh s j ∧ qh s j ≤ 57
def Sz (T : Tb) (lo n b : Int) : Prop := b ≠ 0 ↔ ∃ j, lo ≤ j ∧ j < lo + n ∧ T j 0 ≠ 0
def Sq (T : Tb) (lo n b : Int) : Prop := b ≠ 0 ↔ ∃ j, lo ≤ j ∧ j < lo + n ∧ Big (T j 0)
def qyi (T : Tb) (lo i : Int) : Prop := ∀ j, lo ≤ j → j < lo + i → T j 0 = 0
def qyu (T : Tb) (lo i : Int) : Prop := ∀ j, lo ≤ j → j < lo + i → ¬ Big (T j 0)
def qb6 (j : Nat) (a b c _d : D) : D :=
 match j with
 | 3 => .i (qZ (itoa a.int))
 | 5 => .i (kG a.tab b.int c.int)
 | 6 => .t (WI a.int b.int)
 | 7 => .i (Qi a.int b.int)
 | 8 => .i (trimS a.int b.int)
 | 9 => .i (hpre a.int b.int)
 | 10 => .i (wR (qj a.int))
 | 11 => .i (bA (qj a.int))
 | 12 => .i (fA (qj a.int) b.int.toNat)
 | 13 => .i (Fu a.int b.int)
 | 14 => .i (RO a.int b.int)
 | 15 => .i (hasB a.int b.int)
 | 20 => .i (jN a.int)
 | _ => .i 0
def F4 (N : Nat) (j : Nat) (l : List D) : Prop :=
 match j, l with
 | 10, [.i s, .i n, .i e] => mq s n e
 | 11, [.i s, .i b] => ∀ m, I64 m → qj s = itoa m → b ≠ 0
 | 12, [.i s, .i a, .i r] => R8 s a r
 | 13, [.i s, .i a, .i i] => NoB s a i
 | 14, [.i s, .i b] => Bp s b
 | 15, [.i q, .i s, .i b] => pI q s b
 | 16, [.i s, .t T, .i n, .i e] => yX s T n e
 | 17, [.i s, .i a, .t T, .i n] => Bt s a T n ∧ Br s a T n
 | 20, [.i n] => dep n < N
 | 21, [.i n] => dep n ≤ N
 | 22, [.t T, .i n] => ∀ r : Int, 0 ≤ r → r < n → qy (T r 1) ≤ 100000
 | 30, [.t T, .i n, .i sep] => Short T n sep
 | 31, [.i k, .i a, .i m, .i x, .i y, .i z, .i w, .i n, .i e] => wE k a m x y z w n e
 | 32, [.i k, .i a, .i m, .i x, .i y, .i z, .i w, .i n, .i s] => Jv k a m x y z w n s
 | 33, [.t T, .i lo, .i n, .i b, .i s, .i lo', .i n', .i b'] => yK T lo n b s lo' n' b'
 | 34, [.i s, .i k, .i a, .i m, .i x, .i y, .i z, .i w, .i n, .i b] => jL s k a m x y z w n b
 | 35, [.i s, .i v, .i r, .i u] => IxP s v r u
 | 36, [.i s, .i v, .i q, .i u] => IxI s v q u
 | 37, [.i s, .i r, .i v, .t T, .i n] => PcI s r v T n
 | 38, [.t T, .i lo, .i n, .i b, .i x, .i lo', .i n', .i b'] => dF T lo n b x lo' n' b'
 | 23, [.t T, .i n] => ∀ r : Int, 0 ≤ r → r < n → qy (T r 0) ≤ 100000
 | 40, [.i s, .i i] => NmI s i
 | 41, [.i s, .i l, .i b] => IZ s l b
 | 42, [.i s, .i l, .i i] => F6 s l i
 | 43, [.i k, .i a, .i m, .i x, .i y, .i z, .i w, .i n] => OkP k a m x y z w n
 | 44, [.i L, .i A, .i K, .t T, .i n, .i st, .i e] => J6 L A K T n st e
 | 45, [.t T, .i n] => Ie T n
 | 46, [.t M, .i q, .i k, .i a, .i m, .i x, .i y, .i z, .i w, .i n, .i e] => F8 M q k a m x y z w n e
 | 47, [.t T, .i i, .t M, .i q] => J5 T i M q
 | 48, [.t T, .i i] => OkI T i
 | 49, [.t T, .i i, .i k, .i a, .i m, .i x, .i y, .i z, .i w, .i n, .i e] => qqN T i k a m x y z w n e
 | 50, [.t T, .i n, .i a, .i b] => IK T n a b
 | 51, [.t T, .i i, .i a] => ¬ Made T i a
 | 52, [.t T, .i n, .i k, .i a, .i m, .i r] => IY T n k a m r
 | 53, [.t T, .i i, .i k, .i a, .i m] => ¬ Has T i k a m
 | 54, [.i k, .i a, .i m, .i x, .i y, .i z, .i w, .i n, .i s, .i e] => LnP k a m x y z w n s e
 | 55, [.i s, .t T, .i n, .i b] => Ia s T n b
 | 56, [.t T, .i i, .t U, .i m] => F3 T i U m
 | 57, [.t T, .i q, .i k] => KwI T q k
 | 58, [.t T, .i lo, .i i, .i x, .i y, .i z] => dD T lo i x y z
 | 59, [.i s, .i L, .i A, .i K, .i b] => qzZ s L A K b
 | 60, [.i s, .i k, .i a, .i m, .i x, .i y, .i z, .i w, .i n, .i e] => qyl s k a m x y z w n e
 | 61, [.i s, .t T, .i n, .i e] => XC s T n e
 | 62, [.i s, .i p, .i i, .t T, .i n] => pE s p i T n
 | 63, [.i L, .i A, .i K, .t T, .i n, .i s, .i e] => XT L A K T n s e
 | 64, [.i L, .i A, .i K, .t T, .i i, .t U, .i m] => PrI L A K T i U m
 | 65, [.i L, .i A, .i K, .t T, .i i, .i s] => PrJ L A K T i s
 | 66, [.i s, .i L, .i A, .i K, .t T, .i n, .i l, .i e] => oG s L A K T n l e
 | 67, [.i L, .i A, .i K, .t T, .i n, .i L', .i A', .i K', .t T', .i n', .i b] => IQ L A K T n L' A' K' T' n' b
 | 68, [.t T, .t U, .i i] => qze T U i
 | 69, [.t T, .i n, .i b] => R7 T n b
 | 70, [.t T, .i i] => IX T i
 | 71, [.t T, .i n] => TbR T n
 | 72, [.t U, .t T, .i i] => IJ U T i
 | 73, [.i s, .i i] => R9 s i
 | 74, [.i s, .i i] => NbI s i
 | 80, [.t T] => qgk T
 | 81, [.t T, .i a, .i n, .i b] => Sz T a n b
 | 82, [.t T, .i a, .i n, .i b] => Sq T a n b
 | 83, [.t T, .i a, .i i] => qyi T a i
 | 84, [.t T, .i a, .i i] => qyu T a i
 | _, _ => False
def TI (N : Nat) : Itp where
 fn j a b c d := some (qb6 j a b c d)
 pr := F4 N
variable {N : Nat}
theorem qG : (TI N).tot ttS := by
 intro j s hs a b c d
 unfold Itp.ap
 unfold ttS at hs
 split at hs <;> cases hs
 all_goals first
   | exact ⟨_, (if_neg (by decide)).trans rfl, trivial⟩
   | exact ⟨_, (if_pos (by decide)).trans rfl, trivial⟩
section signs
variable {a b c d x y z u v w p q : Int} {T : Tb}
theorem S3 : (TI N).ap 3 (.i a) (.i b) (.i c) (.i d) = some (.i (qZ (itoa a))) := rfl
theorem S5 : (TI N).ap 5 (.t T) (.i b) (.i c) (.i d) = some (.i (kG T b c)) := rfl
theorem S6 : (TI N).ap 6 (.i a) (.i b) (.i c) (.i d) = some (.t (WI a b)) := rfl
theorem S7 : (TI N).ap 7 (.i a) (.i b) (.i c) (.i d) = some (.i (Qi a b)) := rfl
theorem S8 : (TI N).ap 8 (.i a) (.i b) (.i c) (.i d) = some (.i (trimS a b)) := rfl
theorem S9 : (TI N).ap 9 (.i a) (.i b) (.i c) (.i d) = some (.i (hpre a b)) := rfl
theorem S10 : (TI N).ap 10 (.i a) (.i b) (.i c) (.i d) = some (.i (wR (qj a))) := rfl
theorem S11 : (TI N).ap 11 (.i a) (.i b) (.i c) (.i d) = some (.i (bA (qj a))) := rfl
theorem S12 : (TI N).ap 12 (.i a) (.i b) (.i c) (.i d) = some (.i (fA (qj a) b.toNat)) := rfl
theorem S20 : (TI N).ap 20 (.i a) (.i b) (.i c) (.i d) = some (.i (jN a)) := rfl
theorem qgg : (TI N).ap 1000 (.i a) (.i b) (.i c) (.i d) = some (.i (if a ≠ 0 then b else c)) := rfl
theorem zH : (TI N).ap 1001 (.i a) (.i b) (.i c) (.i d) = some (.i (qy a)) := rfl
theorem K7 : (TI N).ap 1002 (.i a) (.i b) (.i c) (.i d) = some (.i (QJ a b)) := rfl
theorem K6 : (TI N).ap 1003 (.i a) (.i b) (.i c) (.i d) = some (.i (jZ a b c)) := rfl
theorem dB : (TI N).ap 1004 (.i a) (.i b) (.i c) (.i d) = some (.i (qh a b)) := rfl
theorem qgv : (TI N).ap 1005 (.t T) (.i b) (.i c) (.i d) = some (.i (H6 T b)) := rfl
theorem qgy : (TI N).ap 1010 (.i a) (.i b) (.i c) (.i d) = some (.i (mM a b)) := rfl
theorem qgw : (TI N).ap 1011 (.i a) (.i b) (.i c) (.i d) = some (.i (yw a b)) := rfl
theorem P10 : (TI N).pr 10 [.i a, .i b, .i c] = mq a b c := rfl
theorem P11 : (TI N).pr 11 [.i a, .i b] = ∀ m, I64 m → qj a = itoa m → b ≠ 0 := rfl
theorem P12 : (TI N).pr 12 [.i a, .i b, .i c] = R8 a b c := rfl
theorem P13 : (TI N).pr 13 [.i a, .i b, .i c] = NoB a b c := rfl
theorem P14 : (TI N).pr 14 [.i a, .i b] = Bp a b := rfl
theorem P15 : (TI N).pr 15 [.i a, .i b, .i c] = pI a b c := rfl
theorem P16 : (TI N).pr 16 [.i a, .t T, .i b, .i c] = yX a T b c := rfl
theorem P17 : (TI N).pr 17 [.i a, .i b, .t T, .i c] = (Bt a b T c ∧ Br a b T c) := rfl
theorem P20 : (TI N).pr 20 [.i a] = (dep a < N) := rfl
theorem P21 : (TI N).pr 21 [.i a] = (dep a ≤ N) := rfl
theorem P22 : (TI N).pr 22 [.t T, .i b] = ∀ r : Int, 0 ≤ r → r < b → qy (T r 1) ≤ 100000 := rfl
theorem P30 : (TI N).pr 30 [.t T, .i b, .i c] = Short T b c := rfl
theorem P31 : (TI N).pr 31 [.i a, .i b, .i c, .i d, .i x, .i y, .i z, .i u, .i v] = wE a b c d x y z u v := rfl
theorem P32 : (TI N).pr 32 [.i a, .i b, .i c, .i d, .i x, .i y, .i z, .i u, .i v] = Jv a b c d x y z u v := rfl
theorem P33 : (TI N).pr 33 [.t T, .i a, .i b, .i c, .i d, .i x, .i y, .i z] = yK T a b c d x y z := rfl
theorem P34 : (TI N).pr 34 [.i a, .i b, .i c, .i d, .i x, .i y, .i z, .i u, .i v, .i w] = jL a b c d x y z u v w := rfl
theorem P35 : (TI N).pr 35 [.i a, .i b, .i c, .i d] = IxP a b c d := rfl
theorem P36 : (TI N).pr 36 [.i a, .i b, .i c, .i d] = IxI a b c d := rfl
theorem P37 : (TI N).pr 37 [.i a, .i b, .i c, .t T, .i d] = PcI a b c T d := rfl
theorem P38 : (TI N).pr 38 [.t T, .i a, .i b, .i c, .i d, .i x, .i y, .i z] = dF T a b c d x y z := rfl
theorem S13 : (TI N).ap 13 (.i a) (.i b) (.i c) (.i d) = some (.i (Fu a b)) := rfl
theorem S14 : (TI N).ap 14 (.i a) (.i b) (.i c) (.i d) = some (.i (RO a b)) := rfl
theorem S15 : (TI N).ap 15 (.i a) (.i b) (.i c) (.i d) = some (.i (hasB a b)) := rfl
theorem qzQ {U : Tb} : (TI N).ap 1008 (.t T) (.i b) (.t U) (.i d) = some (.i (zT T U d.toNat b.toNat 0)) := rfl
theorem qgx {U : Tb} : (TI N).ap 1009 (.t T) (.i b) (.t U) (.i d) = some (.t (tN T b U d.toNat)) := rfl
theorem P23 : (TI N).pr 23 [.t T, .i a] = (∀ r : Int, 0 ≤ r → r < a → qy (T r 0) ≤ 100000) := rfl
theorem P40 : (TI N).pr 40 [.i a, .i b] = NmI a b := rfl
theorem P41 : (TI N).pr 41 [.i a, .i b, .i c] = IZ a b c := rfl
theorem P42 : (TI N).pr 42 [.i a, .i b, .i c] = F6 a b c := rfl
theorem P43 : (TI N).pr 43 [.i a, .i b, .i c, .i d, .i x, .i y, .i z, .i u] = OkP a b c d x y z u := rfl
theorem P44 : (TI N).pr 44 [.i a, .i b, .i c, .t T, .i d, .i x, .i y] = J6 a b c T d x y := rfl
theorem P45 : (TI N).pr 45 [.t T, .i a] = Ie T a := rfl
theorem P46 : (TI N).pr 46 [.t T, .i a, .i b, .i c, .i d, .i x, .i y, .i z, .i u, .i v, .i w] = F8 T a b c d x y z u v w := rfl
theorem P47 {U : Tb} : (TI N).pr 47 [.t T, .i a, .t U, .i b] = J5 T a U b := rfl
theorem P48 : (TI N).pr 48 [.t T, .i a] = OkI T a := rfl
theorem P49 : (TI N).pr 49 [.t T, .i a, .i b, .i c, .i d, .i x, .i y, .i z, .i u, .i v, .i w] = qqN T a b c d x y z u v w := rfl
theorem P50 : (TI N).pr 50 [.t T, .i a, .i b, .i c] = IK T a b c := rfl
theorem P51 : (TI N).pr 51 [.t T, .i a, .i b] = (¬ Made T a b) := rfl
theorem P52 : (TI N).pr 52 [.t T, .i a, .i b, .i c, .i d, .i x] = IY T a b c d x := rfl
theorem P53 : (TI N).pr 53 [.t T, .i a, .i b, .i c, .i d] = (¬ Has T a b c d) := rfl
theorem P54 : (TI N).pr 54 [.i a, .i b, .i c, .i d, .i x, .i y, .i z, .i u, .i v, .i w] = LnP a b c d x y z u v w := rfl
theorem P55 : (TI N).pr 55 [.i a, .t T, .i b, .i c] = Ia a T b c := rfl
theorem P56 {U : Tb} : (TI N).pr 56 [.t T, .i a, .t U, .i b] = F3 T a U b := rfl
theorem P57 : (TI N).pr 57 [.t T, .i a, .i b] = KwI T a b := rfl
theorem P58 : (TI N).pr 58 [.t T, .i a, .i b, .i c, .i d, .i x] = dD T a b c d x := rfl
theorem P59 : (TI N).pr 59 [.i a, .i b, .i c, .i d, .i x] = qzZ a b c d x := rfl
theorem P61 : (TI N).pr 61 [.i a, .t T, .i b, .i c] = XC a T b c := rfl
theorem P62 : (TI N).pr 62 [.i a, .i b, .i c, .t T, .i d] = pE a b c T d := rfl
theorem P63 : (TI N).pr 63 [.i a, .i b, .i c, .t T, .i d, .i x, .i y] = XT a b c T d x y := rfl
theorem P64 {U : Tb} : (TI N).pr 64 [.i a, .i b, .i c, .t T, .i d, .t U, .i x] = PrI a b c T d U x := rfl
theorem P65 : (TI N).pr 65 [.i a, .i b, .i c, .t T, .i d, .i x] = PrJ a b c T d x := rfl
theorem P66 : (TI N).pr 66 [.i a, .i b, .i c, .i d, .t T, .i x, .i y, .i z] = oG a b c d T x y z := rfl
theorem P67 {U : Tb} : (TI N).pr 67 [.i a, .i b, .i c, .t T, .i d, .i x, .i y, .i z, .t U, .i u, .i v] = IQ a b c T d x y z U u v := rfl
theorem P68 {U : Tb} : (TI N).pr 68 [.t T, .t U, .i a] = qze T U a := rfl
theorem P69 : (TI N).pr 69 [.t T, .i a, .i b] = R7 T a b := rfl
theorem P70 : (TI N).pr 70 [.t T, .i a] = IX T a := rfl
theorem P71 : (TI N).pr 71 [.t T, .i a] = TbR T a := rfl
theorem P72 {U : Tb} : (TI N).pr 72 [.t T, .t U, .i a] = IJ T U a := rfl
theorem P80 : (TI N).pr 80 [.t T] = qgk T := rfl
theorem P73 : (TI N).pr 73 [.i a, .i b] = R9 a b := rfl
theorem P74 : (TI N).pr 74 [.i a, .i b] = NbI a b := rfl
theorem P81 : (TI N).pr 81 [.t T, .i a, .i b, .i c] = Sz T a b c := rfl
theorem P82 : (TI N).pr 82 [.t T, .i a, .i b, .i c] = Sq T a b c := rfl
theorem P83 : (TI N).pr 83 [.t T, .i a, .i b] = qyi T a b := rfl
theorem P84 : (TI N).pr 84 [.t T, .i a, .i b] = qyu T a b := rfl
end signs
theorem lN {s : Int} {a i : Nat} {w t : List UInt8} (h : (qj s).drop a = w ++ t) (hi : i < w.length) : qh s ((a + i : Nat) : Int) = (w[i].toNat : Nat) := by
 unfold qh
 have : (qj s)[((a + i : Nat) : Int).toNat]? = some w[i] := by
   rw [Int.toNat_natCast, ← List.getElem?_drop, h, List.getElem?_append_left hi, List.getElem?_eq_getElem hi]
 rw [this]; rfl
theorem xU {s : Int} {a : Nat} {w t : List UInt8} {c : UInt8} (h : (qj s).drop a = w ++ c :: t) : qh s ((a + w.length : Nat) : Int) = (c.toNat : Nat) := by
 unfold qh
 have : (qj s)[((a + w.length : Nat) : Int).toNat]? = some c := by
   rw [Int.toNat_natCast, ← List.getElem?_drop, h, List.getElem?_append_right (Nat.le_refl _)]; simp
 rw [this]; rfl
structure Core (s a : Int) (T : Tb) (n : Int) (ws : List (List UInt8)) (k : Nat) (w : List UInt8) : Prop where
 num : n = k
 here : ws[k]? = some w
 rows : gJ T ws n
 quote : qh s a ≠ 34
 fin : ∀ r, a ≤ r → r ≤ qy s → R8 s a r → r = a + w.length ∧ jZ s a r = qZ w ∧
   (r < qy s → qh s r = 32 ∧ r + 1 < qy s ∧ k + 1 < ws.length ∧ (qj s).drop (r + 1).toNat = qI (ws.drop (k + 1))) ∧ (r = qy s → k + 1 = ws.length)
theorem core {s a : Int} {T : Tb} {n : Int} (hI : Bt s a T n) (ha0 : 0 ≤ a) (ha : a < qy s) {ws : List (List UInt8)} (hB : Bare ws) (hs : qj s = qI ws) : ∃ k w, Core s a T n ws k w := by
 obtain ⟨k, h1, h2, h3, h4⟩ := hI ws hB hs
 by_cases hk : k < ws.length
 · rw [if_pos hk] at h4
   obtain ⟨h4, _⟩ := h4
   have hd : ws.drop k = ws[k] :: ws.drop (k + 1) := List.drop_eq_getElem_cons hk
   rw [hd, zX] at h4
   obtain ⟨A, rfl⟩ := Int.eq_ofNat_of_zero_le ha0
   rw [Int.toNat_natCast] at h4
   have hw := hB ws[k] (List.getElem_mem hk)
   refine ⟨k, ws[k], h1, List.getElem?_eq_getElem hk, h3, ?_, fun r hr1 hr2 hE => ?_⟩
   · have h0 : 0 < ws[k].length := List.length_pos_iff.2 hw.1
     have := lN (i := 0) h4 h0
     simp only [Nat.add_zero] at this
     rw [this]
     have := (hw.2.2 ws[k][0] (List.getElem_mem h0)).2.2
     omega
   · have hq : qh s (A : Int) ≠ 34 := by
       have h0 : 0 < ws[k].length := List.length_pos_iff.2 hw.1
       have := lN (i := 0) h4 h0
       simp only [Nat.add_zero] at this
       rw [this]
       have := (hw.2.2 ws[k][0] (List.getElem_mem h0)).2.2
       omega
     obtain ⟨e1, e2⟩ := hE hq
     have hlen : (qj s).length = A + ws[k].length + (if ws.drop (k + 1) = [] then [] else 32 :: qI (ws.drop (k + 1))).length := by
       have := congrArg List.length h4
       rw [List.length_drop, List.length_append] at this
       simp only [qy] at ha
       omega
     have hra : r = A + ws[k].length := by
       rcases Int.lt_trichotomy r (A + ws[k].length) with hlt | heq | hgt
       · exfalso
         obtain ⟨i, hi⟩ : ∃ i : Nat, r = ((A + i : Nat) : Int) := ⟨(r - A).toNat, by omega⟩
         have hi' : i < ws[k].length := by omega
         have hb := lN (i := i) h4 hi'
         rw [← hi] at hb
         rcases e2 with e2 | e2
         · simp only [qy] at e2; omega
         · have := hw.2.2 ws[k][i] (List.getElem_mem hi')
           omega
       · exact heq
       · exfalso
         by_cases hl : ws.drop (k + 1) = []
         · rw [if_pos hl] at hlen
           simp only [qy, List.length_nil] at hr2 hlen; omega
         · rw [if_neg hl] at h4
           have hb := xU (s := s) (a := A) h4
           have := e1 ((A + ws[k].length : Nat) : Int) (by omega) (by omega)
           rw [hb] at this
           exact this rfl
     refine ⟨hra, ?_, fun hlt => ?_, fun heq => ?_⟩
     · unfold jZ
       have : r.toNat - (A : Int).toNat = ws[k].length := by omega
       rw [this, Int.toNat_natCast, h4, List.take_left' rfl]
     · have hl : ¬ ws.drop (k + 1) = [] := fun hl => by
         rw [if_pos hl] at hlen
         simp only [qy, List.length_nil] at hlt hlen; omega
       rw [if_neg hl] at h4 hlen
       have hk1 : k + 1 < ws.length := by
         by_cases hk1 : k + 1 < ws.length
         · exact hk1
         · exact absurd (List.drop_eq_nil_of_le (by omega)) hl
       have hb := xU (s := s) (a := A) h4
       refine ⟨by rw [hra]; exact hb, ?_, hk1, ?_⟩
       · have hd2 : ws.drop (k + 1) = ws[k + 1] :: ws.drop (k + 1 + 1) := List.drop_eq_getElem_cons hk1
         have hne := (hB ws[k + 1] (List.getElem_mem hk1)).1
         have : 0 < (qI (ws.drop (k + 1))).length := by
           rw [hd2, zX, List.length_append]
           have := List.length_pos_iff.2 hne
           omega
         simp only [qy, List.length_cons] at hlen ⊢
         omega
       · have : (r + 1).toNat = A + (ws[k].length + 1) := by omega
         rw [this, ← List.drop_drop, h4]
         rw [List.drop_append, List.drop_eq_nil_of_le (by omega)]
         simp
     · by_cases hk1 : k + 1 < ws.length
       · exfalso
         have hl : ¬ ws.drop (k + 1) = [] := fun hl => by
           have := congrArg List.length hl
           simp at this; omega
         rw [if_neg hl] at hlen
         simp only [qy, List.length_cons] at heq hlen
         omega
       · omega
 · rw [if_neg hk] at h4
   omega
theorem Ni (m : Int) : Lib.trimPrefix (itoa m) [45] = decDigits m.natAbs := by
 unfold itoa
 by_cases h : m < 0
 · rw [if_pos h]; simp [Lib.trimPrefix, Lib.hasPrefix]
 · rw [if_neg h]
   have hm : m.toNat = m.natAbs := by omega
   rw [hm]
   have hd := ko m.natAbs
   have hne := sI m.natAbs
   generalize decDigits m.natAbs = l at hd hne
   cases l with
   | nil => exact absurd rfl hne
   | cons c r =>
     have hc := hd c (by simp)
     have : ¬ (45 : UInt8) = c := fun e => by subst e; simp at hc
     simp [Lib.trimPrefix, Lib.hasPrefix, this]
theorem TT (m : Int) : Lib.hasPrefix (itoa m) [45] = decide (m < 0) := by
 unfold itoa
 by_cases h : m < 0
 · rw [if_pos h]; simp [Lib.hasPrefix, h]
 · rw [if_neg h]
   have hd := ko m.toNat
   have hne := sI m.toNat
   generalize decDigits m.toNat = l at hd hne
   cases l with
   | nil => exact absurd rfl hne
   | cons c r =>
     have hc := hd c (by simp)
     have : ¬ (45 : UInt8) = c := fun e => by subst e; simp at hc
     simp [Lib.hasPrefix, List.isPrefixOf, this, h]
theorem Xa {u : Nat} {b : UInt8} (h : (decDigits u)[0]? = some b) (hb : b.toNat = 48) : u = 0 := by
 by_cases hu : 1 ≤ u
 · exact absurd hb (qqc u hu b (by rw [List.head?_eq_getElem?]; exact h))
 · omega
theorem vo (l : List UInt8) (i : Nat) : dval 0 (l.take i) ≤ dval 0 l := by
 have h : dval 0 l = dval (dval 0 (l.take i)) (l.drop i) := by rw [← bn, List.take_append_drop]
 rw [h]; exact Qz _ _
theorem pq {l : List UInt8} {i : Nat} {c : UInt8} (h : l[i]? = some c) : dval 0 (l.take (i + 1)) = dval 0 (l.take i) * 10 + (c.toNat - 48) := by
 obtain ⟨hi, he⟩ := List.getElem?_eq_some_iff.1 h
 rw [List.take_succ_eq_append_getElem hi, bn, he, wI, Z4]
theorem w64 {x : Int} (h : -9223372036854775808 ≤ x ∧ x ≤ 9223372036854775807) : IntKind.i64.wrap x = x := Qg (k := .i64) h
theorem w8 {x : Int} (h : 0 ≤ x ∧ x ≤ 255) : IntKind.u8.wrap x = x := Qg (k := .u8) h
theorem Bd {l : List UInt8} (hd : ∀ b ∈ l, 48 ≤ b.toNat ∧ b.toNat ≤ 57) (hf : dval 0 l ≤ 9223372036854775807) : ∀ i, i ≤ l.length → fA l i = (dval 0 (l.take i) : Nat)
 | 0, _ => by simp [fA, dval]
 | i + 1, h => by
   have hi : i < l.length := by omega
   have hc := hd l[i] (List.getElem_mem hi)
   have hx := List.getElem?_eq_getElem hi
   have e := pq hx
   have hle := vo l (i + 1)
   have hle2 := vo l i
   have h0' : ¬ ((((l[0]?).getD 0).toNat : Nat) : Int) = 45 := by
     have h0 : 0 < l.length := by omega
     have hc0 := hd l[0] (List.getElem_mem h0)
     rw [List.getElem?_eq_getElem h0, Option.getD_some]
     omega
   simp only [fA]
   rw [hx, Option.getD_some, if_pos (by omega), if_neg h0', Bd hd hf i (by omega), w8 (by omega), w64 (x := (l[i].toNat : Int) - 48) (by omega), w64 (x := 10 * ((dval 0 (l.take i) : Nat) : Int)) (by omega), w64 (by omega)]
   omega
theorem Bf {l : List UInt8} (hd : ∀ b ∈ l, 48 ≤ b.toNat ∧ b.toNat ≤ 57) (hf : dval 0 l ≤ 9223372036854775808) : ∀ i, i ≤ l.length → fA (45 :: l) (i + 1) = -(dval 0 (l.take i) : Nat)
 | 0, _ => by simp [fA, dval]
 | i + 1, h => by
   have hi : i < l.length := by omega
   have hc := hd l[i] (List.getElem_mem hi)
   have hx : (45 :: l)[i + 1]? = some l[i] := by rw [List.getElem?_cons_succ]; exact List.getElem?_eq_getElem hi
   have e := pq (List.getElem?_eq_getElem hi)
   have hle := vo l (i + 1)
   have hle2 := vo l i
   rw [fA]
   rw [hx, Option.getD_some]
   simp only [List.getElem?_cons_zero, Option.getD_some]
   rw [if_pos (by omega), if_pos (show ((UInt8.toNat 45 : Nat) : Int) = 45 from rfl), Bf hd hf i (by omega), w8 (by omega), w64 (x := (l[i].toNat : Int) - 48) (by omega), w64 (x := 10 * -((dval 0 (l.take i) : Nat) : Int)) (by omega), w64 (by omega)]
   omega
theorem R6 {m : Int} (h : I64 m) : fA (itoa m) (itoa m).length = m := by
 obtain ⟨h0, h1⟩ := h
 unfold itoa
 by_cases hm : m < 0
 · rw [if_pos hm, List.length_cons, Bf (ko _) (by rw [rR]; omega) _ (Nat.le_refl _), List.take_length, rR]
   omega
 · rw [if_neg hm, Bd (ko _) (by rw [rR]; omega) _ (Nat.le_refl _), List.take_length, rR]
   omega
theorem DT {u : Nat} : 1 ≤ nDigits u := nDigits_pos u
theorem oo {n : Int} (h : 0 ≤ n) (h1 : n < 10) : dep n = 2 := by
 unfold dep; rw [if_neg (by omega), nDigits_small (by omega)]
theorem qqs {n : Int} (h : 10 ≤ n) : dep (n.tdiv 10) < dep n ∧ dep (n.tmod 10) < dep n := by
 have e1 : n.tdiv 10 = n / 10 := Int.tdiv_eq_ediv_of_nonneg (by omega)
 have e2 : n.tmod 10 = n % 10 := Int.tmod_eq_emod_of_nonneg (by omega)
 rw [e1, e2, oo (n := n % 10) (by omega) (by omega)]
 unfold dep
 rw [if_neg (by omega), if_neg (by omega), nDigits_big (u := n.natAbs) (by omega)]
 have : (n / 10).natAbs = n.natAbs / 10 := by omega
 rw [this]
 have := DT (u := n.natAbs / 10)
 omega
theorem UE {n : Int} (h : n < 0) (h1 : -10 < n) : dep (-n) < dep n := by
 rw [oo (n := -n) (by omega) (by omega)]
 unfold dep
 rw [if_pos h]
 have := DT (u := n.natAbs)
 omega
theorem U0 {n : Int} (h : n ≤ -10) : dep (n.tdiv 10) < dep n ∧ dep (-(n.tmod 10)) < dep n := by
 obtain ⟨u, hu⟩ := Int.eq_ofNat_of_zero_le (show 0 ≤ -n by omega)
 have hn : n = -(u : Int) := by omega
 have e1 : n.tdiv 10 = -((u / 10 : Nat) : Int) := by rw [hn, Int.neg_tdiv, Int.tdiv_eq_ediv_of_nonneg (by omega)]; rfl
 have e2 : -(n.tmod 10) = ((u % 10 : Nat) : Int) := by rw [hn, Int.neg_tmod, Int.neg_neg, Int.tmod_eq_emod_of_nonneg (by omega)]; rfl
 rw [e1, e2, oo (n := ((u % 10 : Nat) : Int)) (by omega) (by omega)]
 unfold dep
 rw [if_pos (by omega), if_pos (by omega), show n.natAbs = u by omega, nDigits_big (u := u) (by omega), show (-((u / 10 : Nat) : Int)).natAbs = u / 10 by omega]
 have := DT (u := u / 10)
 omega
theorem qyg {n : Int} (h : I64 n) : dep n ≤ 39 := by
 have := tH 19 n.natAbs (by omega) (by obtain ⟨h0, h1⟩ := h; omega)
 unfold dep
 split <;> omega
end Go.Tt
namespace Go.Tt
open Go Go.Sx Go.Lib Go.Sf
theorem qN (s : Int) : 0 ≤ qy s := by unfold qy; omega
theorem iw {s : Int} (h : qy s = 0) : s = 0 := by
 have h1 : qj s = [] := List.eq_nil_of_length_eq_zero (by simpa [qy] using h)
 have h2 : qj 0 = [] := rfl
 exact wu (by rw [h1, h2])
theorem Vj {s : Int} (h : ¬ s = 0) : 0 < qy s := by
 have := qN s
 rcases Int.lt_or_eq_of_le this with h1 | h1
 · exact h1
 · exact absurd (iw h1.symm) h
theorem zP (l : List UInt8) : qy (qZ l) = (l.length : Nat) := by unfold qy; rw [qm]
theorem vH : qy 0 = 0 := rfl
theorem QZ : qj 0 = [] := rfl
theorem gF {s : Int} : qj s ≠ [] ↔ s ≠ 0 := ⟨fun h e => h (by rw [e]; rfl), fun h e => h (wu (by rw [e]; rfl))⟩
theorem jW {s n : Int} (h0 : 0 ≤ n) (h1 : n < qy s) : ∃ c, (qj s)[n.toNat]? = some c ∧ c ∈ qj s ∧ qh s n = (c.toNat : Nat) := by
 have hl : n.toNat < (qj s).length := by unfold qy at h1; omega
 refine ⟨(qj s)[n.toNat], List.getElem?_eq_getElem hl, List.getElem_mem hl, ?_⟩
 unfold qh
 rw [List.getElem?_eq_getElem hl]; rfl
theorem dh {s : Int} {c : UInt8} (h : c ∈ qj s) : ∃ n : Int, 0 ≤ n ∧ n < qy s ∧ qh s n = (c.toNat : Nat) := by
 obtain ⟨i, hi, rfl⟩ := List.getElem_of_mem h
 refine ⟨i, by omega, by unfold qy; omega, ?_⟩
 unfold qh
 rw [Int.toNat_natCast, List.getElem?_eq_getElem hi]; rfl
theorem vZ (a b : Int) : qy (QJ a b) = qy a + qy b := by
 unfold QJ
 rw [zP, List.length_append]
 unfold qy
 omega
theorem yB (a i j : Int) : qy (jZ a i j) ≤ ((j.toNat - i.toNat : Nat) : Int) ∧ qy (jZ a i j) ≤ qy a := by
 unfold jZ
 rw [zP]
 have h1 := List.length_take_le (j.toNat - i.toNat) ((qj a).drop i.toNat)
 have h2 : (((qj a).drop i.toNat).take (j.toNat - i.toNat)).length ≤ ((qj a).drop i.toNat).length := List.length_take_le' _ _
 rw [List.length_drop] at h2
 unfold qy
 omega
theorem kP (a i j : Int) : qj (jZ a i j) = ((qj a).drop i.toNat).take (j.toNat - i.toNat) := by unfold jZ; rw [qm]
theorem vJ (l m : List UInt8) : QJ (qZ l) (qZ m) = qZ (l ++ m) := by unfold QJ; rw [qm, qm]
theorem ji.bytes {w : List UInt8} (h : ji w) {b : UInt8} (hb : b ∈ w) : (33 ≤ b.toNat ∧ b.toNat ≤ 126) ∧ b.toNat ≠ 34 := by
 have := h.2.2 b hb
 omega
theorem X8 {s a : Int} {T : Tb} {n : Int} (hI : Bt s a T n) (h0 : 0 ≤ a) (h1 : a < qy s) {r : Int} (hr1 : a ≤ r) (hr2 : r ≤ qy s) (hE : R8 s a r) (q x : Int)
   (hq : qh s a ≠ 34 → q = 0 ∧ x = jZ s a r) : Bt s (r + 1) (qg (qg T n 0 q) n 1 x) (n + 1) := by
 intro ws hB hs
 obtain ⟨k, w, hC⟩ := core hI h0 h1 hB hs
 obtain ⟨e1, e2, e3, e4⟩ := hC.fin r hr1 hr2 hE
 obtain ⟨rfl, rfl⟩ := hq hC.quote
 have hk : k < ws.length := (List.getElem?_eq_some_iff.1 hC.here).1
 refine ⟨k + 1, by rw [hC.num]; rfl, hk, ?_, ?_⟩
 · intro j hj
   by_cases hjn : (j : Int) = n
   · have hjk : j = k := by have := hC.num; omega
     subst hjk
     refine ⟨by simp [qg, hjn], fun w' hw' => ?_⟩
     rw [hC.here] at hw'
     simp only [Option.some.injEq] at hw'
     subst hw'
     simp [qg, hjn, e2]
   · have := hC.rows j (by omega)
     refine ⟨by simp [qg, hjn, this.1], fun w' hw' => ?_⟩
     simp [qg, hjn, this.2 w' hw']
 · by_cases hk1 : k + 1 < ws.length
   · rw [if_pos hk1]
     have hlt : r < qy s := by
       rcases Int.lt_or_eq_of_le hr2 with h | h
       · exact h
       · have := e4 h; omega
     obtain ⟨_, f2, _, f4⟩ := e3 hlt
     exact ⟨f4, f2⟩
   · rw [if_neg hk1]
     rcases Int.lt_or_eq_of_le hr2 with h | h
     · have := (e3 h).2.2.1; omega
     · omega
theorem QY {T : Tb} {ws : List (List UInt8)} {n q x : Int} {w : List UInt8} (h : gJ T ws n) (hn : n = (ws.length : Nat)) (hq : q = 0) (hx : x = qZ w) :
   gJ (qg (qg T n 0 q) n 1 x) (ws ++ [w]) (n + 1) := by
 intro j hj
 by_cases hjn : (j : Int) = n
 · refine ⟨by simp [qg, hjn, hq], fun w' hw' => ?_⟩
   have : j = ws.length := by omega
   subst this
   simp at hw'
   subst hw'
   simp [qg, hjn, hx]
 · have := h j (by omega)
   refine ⟨by simp [qg, hjn, this.1], fun w' hw' => ?_⟩
   rw [List.getElem?_append_left (by omega)] at hw'
   simp [qg, hjn, this.2 w' hw']
theorem Qx {T : Tb} {n q x : Int} (hn : 0 ≤ n) (h : ∀ r : Nat, (r : Int) < n + 1 → qg (qg T n 0 q) n 1 x r 0 = 0) : q = 0 ∧ ∀ r : Nat, (r : Int) < n → T r 0 = 0 := by
 refine ⟨?_, fun r hr => ?_⟩
 · have := h n.toNat (by omega)
   rw [Int.toNat_of_nonneg hn] at this
   simpa [qg] using this
 · have := h r (by omega)
   have hne : ¬ ((r : Int) = n) := by omega
   simpa [qg, hne] using this
theorem Jj {ws : List (List UInt8)} {w : List UInt8} (h : Bare ws) (hw : ji w) : Bare (ws ++ [w]) := fun x hx => by
 rcases List.mem_append.1 hx with hx | hx
 · exact h x hx
 · simp at hx; subst hx; exact hw
theorem Kj {s a : Int} {T : Tb} {n : Int} (hJ : Br s a T n) (h0 : 0 ≤ a) (h1 : a < qy s) (hn : 0 ≤ n) {r : Int} (hr1 : a ≤ r) (hr2 : r ≤ qy s) {q x : Int}
   (hq : q = 0 → x = jZ s a r ∧ ji (qj x)) (hr : r < qy s → qh s r = 32 ∧ ¬ r + 1 = qy s) : Br s (r + 1) (qg (qg T n 0 q) n 1 x) (n + 1) := by
 intro hz
 obtain ⟨hq0, hz⟩ := Qx hn hz
 obtain ⟨hx, hw⟩ := hq hq0
 obtain ⟨ws, e1, e2, e3, e4⟩ := hJ hz
 have hxs : x = qZ (qj x) := by rw [zf]
 refine ⟨ws ++ [qj x], Jj e1 hw, by simp; omega, QY e3 e2 hq0 hxs, ?_⟩
 have htake : (qj s).take r.toNat = tY ws ++ qj x := by
   have hsplit : (qj s).take r.toNat = (qj s).take a.toNat ++ ((qj s).drop a.toNat).take (r.toNat - a.toNat) := by
     have := List.take_add (l := qj s) (i := a.toNat) (j := r.toNat - a.toNat)
     rw [show a.toNat + (r.toNat - a.toNat) = r.toNat by omega] at this
     exact this
   rw [hsplit, hx, kP]
   rcases e4 with ⟨rfl, rfl⟩ | ⟨_, _, e4⟩ | ⟨e4, _⟩
   · simp [tY]
   · rw [e4]
   · omega
 rcases Int.lt_or_eq_of_le hr2 with hlt | heq
 · obtain ⟨hb, hne⟩ := hr hlt
   refine .inr (.inl ⟨by omega, by omega, ?_⟩)
   obtain ⟨c, hc, _, hc2⟩ := jW (s := s) (n := r) (by omega) hlt
   have hc32 : c = 32 := by
     apply UInt8.toNat.inj
     rw [hb] at hc2
     have : c.toNat = 32 := by omega
     rw [this]; rfl
   subst hc32
   obtain ⟨hl, he⟩ := List.getElem?_eq_some_iff.1 hc
   rw [show (r + 1).toNat = r.toNat + 1 by omega, List.take_succ_eq_append_getElem hl, htake, he, o9]
   simp [tY]
 · refine .inr (.inr ⟨by omega, ?_⟩)
   rw [uQ, ← htake, List.take_of_length_le (by rw [heq]; unfold qy; omega)]
theorem He {s a : Int} {T : Tb} {n : Int} (hI : Bt s a T n) (h0 : 0 ≤ a) (h1 : a < qy s) {r : Int} (hr1 : a ≤ r) (hr2 : r ≤ qy s) (hE : R8 s a r)
   (h : qh s a = 34 ∨ pI 0 (jZ s a r) 0 ∨ (r < qy s ∧ (¬ qh s r = 32 ∨ r + 1 = qy s))) (T' : Tb) (m : Int) {e : Int} (he : e ≠ 0) : yX s T' m e := by
 refine ⟨fun ws hB _ _ hs => ?_, fun h => absurd h he⟩
 obtain ⟨k, w, hC⟩ := core hI h0 h1 hB hs
 obtain ⟨e1, e2, e3, e4⟩ := hC.fin r hr1 hr2 hE
 rcases h with h | h | ⟨h, h2⟩
 · exact absurd h hC.quote
 · have hw := hB w (List.mem_of_getElem? hC.here)
   rw [e2] at h
   have := (h rfl).2 (by rw [qm]; exact hw)
   exact absurd rfl this
 · obtain ⟨f1, f2, _, _⟩ := e3 h
   rcases h2 with h2 | h2
   · exact absurd f1 h2
   · omega
theorem Ol {s a : Int} {T : Tb} {n : Int} (hI : Bt s a T n) (hJ : Br s a T n) (h0 : 0 ≤ a) (h1 : ¬ a < qy s) : (64 < n → yX s (fun _ _ => 0) 0 3) ∧ (¬ 64 < n → yX s T n 0) := by
 have key : ∀ ws, Bare ws → qj s = qI ws → n = (ws.length : Nat) ∧ gJ T ws n := fun ws hB hs => by
   obtain ⟨k, e1, e2, e3, e4⟩ := hI ws hB hs
   by_cases hk : k < ws.length
   · rw [if_pos hk] at e4
     exact absurd e4.2 h1
   · exact ⟨by omega, e3⟩
 refine ⟨fun h => ⟨fun ws hB hl _ hs => ?_, fun h => by cases h⟩, fun h => ⟨fun ws hB hl _ hs => ?_, fun _ hz => ?_⟩⟩
 · have := (key ws hB hs).1; omega
 · obtain ⟨e1, e2⟩ := key ws hB hs
   exact ⟨rfl, e1, e2⟩
 · obtain ⟨ws, e1, e2, e3, e4⟩ := hJ hz
   refine ⟨ws, e1, by omega, e2, ?_, e3⟩
   rcases e4 with ⟨rfl, rfl⟩ | ⟨_, h2, _⟩ | ⟨_, h2⟩
   · have := qN s
     have : s = 0 := iw (by omega)
     subst this; rfl
   · exact absurd h2 h1
   · exact h2
theorem NG (s : Int) : Bt s 0 (fun _ _ => 0) 0 ∧ Br s 0 (fun _ _ => 0) 0 := by
 refine ⟨fun ws hB hs => ?_, fun _ => ⟨[], (fun _ h => by cases h), rfl, fun r hr => by omega, .inl ⟨rfl, rfl⟩⟩⟩
 refine ⟨0, rfl, Nat.zero_le _, fun r hr => by omega, ?_⟩
 by_cases h : 0 < ws.length
 · rw [if_pos h]
   refine ⟨by simpa using hs, ?_⟩
   cases ws with
   | nil => simp at h
   | cons w l =>
     have hw := (hB w (by simp)).1
     have := List.length_pos_iff.2 hw
     unfold qy
     rw [hs, zX, List.length_append]
     omega
 · rw [if_neg h]
   have : ws = [] := List.eq_nil_of_length_eq_zero (by omega)
   subst this
   unfold qy
   rw [hs]; simp [qI]
theorem vW {T : Tb} {n q x : Int} (h : ∀ r : Int, 0 ≤ r → r < n → qy (T r 1) ≤ 100000) (hx : qy x ≤ 100000) : ∀ r : Int, 0 ≤ r → r < n + 1 → qy (qg (qg T n 0 q) n 1 x r 1) ≤ 100000 := by
 intro r h0 h1
 by_cases hr : r = n
 · simp [qg, hr, hx]
 · simp [qg, hr]; exact h r h0 (by omega)
theorem Gv {ws : List (List UInt8)} (h : Bare ws) : ∀ b ∈ qI ws, b.toNat < 128 ∧ b.toNat ≠ 34 := by
 induction ws with
 | nil => intro b hb; cases hb
 | cons w l ih =>
   intro b hb
   rw [zX] at hb
   rcases List.mem_append.1 hb with hb | hb
   · have := (h w (by simp)).bytes hb; omega
   · split at hb
     · cases hb
     · rcases List.mem_cons.1 hb with rfl | hb
       · exact ⟨by decide, by decide⟩
       · exact ih (fun x hx => h x (by simp [hx])) b hb
theorem LP {r at' u : Int} {ws : List (List UInt8)} (hB : Bare ws) (hne : ws ≠ []) (hr : qj r = qI ws) (h : IxP r 0 at' u) :
   u = 0 ∧ ∃ w l, ws = w :: l ∧ ((at' = -1 ∧ l = [] ∧ qj r = w) ∨ (0 ≤ at' ∧ l ≠ [] ∧ at' = (w.length : Nat) ∧ qj (jZ r 0 at') = w ∧ qj (jZ r (at' + 1) (qy r)) = qI l)) := by
 obtain ⟨w, l, rfl⟩ := List.exists_cons_of_ne_nil hne
 have hby : ∀ j, 0 ≤ j → j < qy r → qh r j < 128 ∧ qh r j ≠ 34 := fun j h0 h1 => by
   obtain ⟨c, _, h2, h3⟩ := jW h0 h1
   rw [hr] at h2
   have := Gv hB c h2
   omega
 have hw := hB w (by simp)
 have hin : ∀ j : Nat, j < w.length → qh r j ≠ 32 := fun j hj => by
   have hd : (qj r).drop 0 = w ++ (if l = [] then [] else 32 :: qI l) := by rw [List.drop_zero, hr, zX]
   have := lN (s := r) (a := 0) (i := j) hd hj
   rw [Nat.zero_add] at this
   rw [this]
   have := hw.bytes (List.getElem_mem hj)
   omega
 rcases h with ⟨rfl, hI⟩ | ⟨h0, h1, h2, hI⟩
 · obtain ⟨hu, hn⟩ := hI rfl hby
   refine ⟨hu, w, l, rfl, .inl ⟨rfl, ?_, ?_⟩⟩
   all_goals
     by_cases hl : l = []
     · first
         | exact hl
         | (subst hl; rw [hr]; rfl)
     · exfalso
       have hd : (qj r).drop 0 = w ++ 32 :: qI l := by rw [List.drop_zero, hr, zX, if_neg hl]
       have hb := xU (s := r) (a := 0) hd
       rw [Nat.zero_add] at hb
       refine hn w.length (by omega) ?_ hb
       unfold qy
       rw [hr, zX, if_neg hl]
       simp; omega
 · obtain ⟨hu, hn⟩ := hI rfl fun j hj0 hj1 => hby j hj0 (by omega)
   obtain ⟨A, rfl⟩ := Int.eq_ofNat_of_zero_le h0
   have hge : w.length ≤ A := by
     rcases Nat.lt_or_ge A w.length with hlt | hge
     · exact absurd h2 (hin A hlt)
     · exact hge
   have hl : l ≠ [] := fun hl => by
     subst hl
     unfold qy at h1
     rw [hr] at h1
     simp [qI] at h1
     omega
   have hd : (qj r).drop 0 = w ++ 32 :: qI l := by rw [List.drop_zero, hr, zX, if_neg hl]
   have hb := xU (s := r) (a := 0) hd
   rw [Nat.zero_add] at hb
   have hle : A ≤ w.length := by
     rcases Nat.lt_or_ge w.length A with hlt | hge
     · exact absurd hb (hn w.length (by omega) (by omega))
     · exact hge
   have hA : A = w.length := by omega
   subst hA
   rw [List.drop_zero] at hd
   refine ⟨hu, w, l, rfl, .inr ⟨h0, hl, rfl, ?_, ?_⟩⟩
   · rw [kP, hd]
     simp
   · rw [kP, hd]
     rw [show ((w.length : Int) + 1).toNat = w.length + 1 by omega, List.drop_append, List.drop_eq_nil_of_le (by omega)]
     simp only [List.nil_append, show w.length + 1 - w.length = 1 by omega, List.drop_succ_cons, List.drop_zero]
     refine List.take_of_length_le ?_
     unfold qy
     rw [hd]
     simp; omega
theorem T9 {s : Int} (h : ¬ s = 0) : PcI s s 0 (fun _ _ => 0) 0 := by
 refine ⟨fun ws hB hs => ⟨0, rfl, ?_, fun r hr => by omega, rfl, by simpa using hs⟩, fun _ => ⟨rfl, [], (fun _ h => by cases h), rfl, (fun r hr => by omega), by simp [tY]⟩⟩
 cases ws with
 | nil => exact absurd (wu (by rw [hs]; rfl)) h
 | cons w l => simp
theorem Am {r at' u : Int} (hI : IxI r 0 at' u) (h0 : 0 ≤ at') (h1 : at' ≤ qy r) (hw : ji (qj (jZ r 0 at'))) : u = 0 := by
 refine (hI rfl fun j hj0 hj1 => ?_).1
 have hl : j.toNat < (qj (jZ r 0 at')).length := by
   rw [kP]
   simp only [List.length_take, List.length_drop]
   unfold qy at h1; omega
 have hb := hw.bytes (List.getElem_mem hl)
 have e : (qj (jZ r 0 at'))[j.toNat]? = (qj r)[j.toNat]? := by
   rw [kP]
   simp only [Int.toNat_zero, List.drop_zero]
   rw [List.getElem?_take, if_pos (by omega)]
 have hb2 : qh r j = ((qj (jZ r 0 at'))[j.toNat].toNat : Nat) := by
   unfold qh
   rw [← e, List.getElem?_eq_getElem hl]; rfl
 rw [hb2]; omega
theorem oz {w : List UInt8} {p : Int} (hw : ji w) (hp : qj p = w) : hpre p (-18) = 0 := by
 unfold hpre
 rw [hp]
 have e : qj (-18) = [34] := rfl
 rw [e]
 obtain ⟨c, l, rfl⟩ := List.exists_cons_of_ne_nil hw.1
 have := hw.bytes (b := c) (by simp)
 have hc : ¬ (34 : UInt8) = c := fun h => by subst h; exact this.2 rfl
 simp [Lib.hasPrefix, List.isPrefixOf, hc]
theorem YW {s r v : Int} {T : Tb} {n at' u : Int} (hP : PcI s r v T n) (hI : IxP r v at' u) {ws : List (List UInt8)} (hB : Bare ws) (hs : qj s = qI ws) :
   ∃ k : Nat, n = k ∧ k < ws.length ∧ gJ T ws n ∧ u = 0 ∧ ∃ w l, ws.drop k = w :: l ∧ ji w ∧ ((at' = -1 ∧ l = [] ∧ qj r = w) ∨ (0 ≤ at' ∧ l ≠ [] ∧ at' = (w.length : Nat) ∧ qj (jZ r 0 at') = w ∧ qj (jZ r (at' + 1) (qy r)) = qI l)) := by
 obtain ⟨k, e1, e2, e3, rfl, e5⟩ := hP.1 ws hB hs
 have hne : ws.drop k ≠ [] := fun h => by
   have := congrArg List.length h
   simp at this; omega
 have hB' : Bare (ws.drop k) := fun w hw => hB w (List.mem_of_mem_drop hw)
 obtain ⟨hu, w, l, e6, e7⟩ := LP hB' hne e5 hI
 exact ⟨k, e1, e2, e3, hu, w, l, e6, hB' w (by rw [e6]; simp), e7⟩
theorem drop_at {ws : List (List UInt8)} {k : Nat} {w : List UInt8} {l : List (List UInt8)} (h : ws.drop k = w :: l) : ws[k]? = some w ∧ ws.drop (k + 1) = l := by
 constructor
 · have := congrArg (·[0]?) h
   simpa using this
 · have := congrArg (List.drop 1) h
   simpa [List.drop_drop] using this
theorem Kh {T : Tb} {ws : List (List UInt8)} {k : Nat} {n : Int} {w : List UInt8} (hn : n = k) (hk : ws[k]? = some w) (h : gJ T ws n) {q x : Int} (hq : q = 0) (hx : x = qZ w) : gJ (qg (qg T n 0 q) n 1 x) ws (n + 1) := by
 intro j hj
 by_cases hjn : (j : Int) = n
 · have hjk : j = k := by omega
   subst hjk
   refine ⟨by simp [qg, hjn, hq], fun w' hw' => ?_⟩
   rw [hk] at hw'
   simp only [Option.some.injEq] at hw'
   subst hw'
   simp [qg, hjn, hx]
 · have := h j (by omega)
   refine ⟨by simp [qg, hjn, this.1], fun w' hw' => ?_⟩
   simp [qg, hjn, this.2 w' hw']
theorem Ma {s r v : Int} {T : Tb} {n at' u : Int} (hP : PcI s r v T n) (hn : 0 ≤ n) (hI : IxP r v at' u) (h0 : 0 ≤ at') {q x : Int}
   (hq : hpre (jZ r 0 at') (-18) = 0 → q = 0 ∧ x = jZ r 0 at') (hq2 : q = 0 → x = jZ r 0 at' ∧ ji (qj x)) : PcI s (jZ r (at' + 1) (qy r)) u (qg (qg T n 0 q) n 1 x) (n + 1) := by
 refine ⟨fun ws hB hs => ?_, fun hz => ?_⟩
 · obtain ⟨k, e1, e2, e3, e4, w, l, e5, e6, e7⟩ := YW hP hI hB hs
   rcases e7 with ⟨h, _⟩ | ⟨_, e8, e9, e10, e11⟩
   · omega
   obtain ⟨rfl, rfl⟩ := hq (oz e6 e10)
   obtain ⟨f1, f2⟩ := drop_at e5
   refine ⟨k + 1, by omega, ?_, Kh e1 f1 e3 rfl (by rw [← e10, zf]), e4, by rw [e11, f2]⟩
   rcases Nat.lt_or_ge (k + 1) ws.length with h | h
   · exact h
   · exact absurd (by rw [← f2]; exact List.drop_eq_nil_of_le h) e8
 · obtain ⟨hq0, hz⟩ := Qx hn hz
   obtain ⟨hx, hw⟩ := hq2 hq0
   obtain ⟨hv, ws, e1, e2, e3, e4⟩ := hP.2 hz
   subst hv
   rcases hI with ⟨h, _⟩ | ⟨_, h1, h2, hI⟩
   · omega
   have hw' : ji (qj (jZ r 0 at')) := by rw [← hx]; exact hw
   have hu := Am hI h0 (by omega) hw'
   refine ⟨hu, ws ++ [qj x], Jj e1 hw, by simp; omega, QY e3 e2 hq0 (by rw [zf]), ?_⟩
   rw [o9, e4, hx]
   obtain ⟨c, hc, _, hc2⟩ := jW (s := r) h0 h1
   have hc32 : c = 32 := by
     apply UInt8.toNat.inj
     rw [h2] at hc2
     have : c.toNat = 32 := by omega
     rw [this]; rfl
   subst hc32
   obtain ⟨hl, he⟩ := List.getElem?_eq_some_iff.1 hc
   have hr : qj r = qj (jZ r 0 at') ++ 32 :: qj (jZ r (at' + 1) (qy r)) := by
     rw [kP, kP]
     simp only [Int.toNat_zero, List.drop_zero, Nat.sub_zero]
     have e1 : (qj r).take at'.toNat ++ (qj r).drop at'.toNat = qj r := List.take_append_drop _ _
     have e2 : (qj r).drop at'.toNat = 32 :: (qj r).drop (at'.toNat + 1) := by rw [List.drop_eq_getElem_cons hl, he]
     rw [show (at' + 1).toNat = at'.toNat + 1 by omega]
     rw [List.take_of_length_le (l := (qj r).drop (at'.toNat + 1)) (by unfold qy; simp), ← e2, e1]
   simp only [tY, List.append_assoc, List.cons_append, List.nil_append]
   rw [← hr]
theorem eT {s r v : Int} {T : Tb} {n u : Int} (hP : PcI s r v T n) (hn : 0 ≤ n) (hI : IxP r v (-1) u) {q x : Int}
   (hq : hpre r (-18) = 0 → q = 0 ∧ x = r) (hq2 : q = 0 → x = r ∧ ji (qj x)) :
   (64 < n + 1 → ∀ T', yX s T' 0 3) ∧ (¬ 64 < n + 1 → yX s (qg (qg T n 0 q) n 1 x) (n + 1) 0) := by
 have key : ∀ ws, Bare ws → qj s = qI ws → n + 1 = (ws.length : Nat) ∧ gJ (qg (qg T n 0 q) n 1 x) ws (n + 1) := fun ws hB hs => by
   obtain ⟨k, e1, e2, e3, e4, w, l, e5, e6, e7⟩ := YW hP hI hB hs
   rcases e7 with ⟨_, rfl, e8⟩ | ⟨h, _⟩
   · obtain ⟨rfl, rfl⟩ := hq (oz e6 e8)
     obtain ⟨f1, f2⟩ := drop_at e5
     refine ⟨?_, Kh e1 f1 e3 rfl (by rw [← e8, zf])⟩
     have := congrArg List.length f2
     simp at this
     omega
   · omega
 refine ⟨fun h T' => ⟨fun ws hB hl _ hs => ?_, fun h => by cases h⟩, fun h => ⟨fun ws hB hl _ hs => ?_, fun _ hz => ?_⟩⟩
 · have := (key ws hB hs).1; omega
 · obtain ⟨e1, e2⟩ := key ws hB hs
   exact ⟨rfl, e1, e2⟩
 · obtain ⟨hq0, hz⟩ := Qx hn hz
   obtain ⟨rfl, hw⟩ := hq2 hq0
   obtain ⟨hv, ws, e1, e2, e3, e4⟩ := hP.2 hz
   exact ⟨ws ++ [qj x], Jj e1 hw, by simp; omega, by simp; omega, by rw [uQ, e4], QY e3 e2 hq0 (by rw [zf])⟩
theorem Cq {s r v : Int} {T : Tb} {n at' u : Int} (hP : PcI s r v T n) (hI : IxP r v at' u) {p : Int} (hp : (0 ≤ at' ∧ p = jZ r 0 at') ∨ (at' < 0 ∧ p = r)) (h : hpre p (-18) ≠ 0 ∨ ¬ ji (qj p)) (T' : Tb) (m : Int) {e : Int} (he : e ≠ 0) : yX s T' m e := by
 refine ⟨fun ws hB _ _ hs => ?_, fun h => absurd h he⟩
 obtain ⟨k, e1, e2, e3, e4, w, l, e5, e6, e7⟩ := YW hP hI hB hs
 have hw : qj p = w := by
   rcases e7 with ⟨h1, _, h2⟩ | ⟨h1, _, _, h2, _⟩ <;> rcases hp with ⟨h3, rfl⟩ | ⟨h3, rfl⟩
   · omega
   · exact h2
   · exact h2
   · omega
 rcases h with h | h
 · exact absurd (oz e6 hw) h
 · exact absurd (by rw [hw]; exact e6) h
theorem UH {s : Int} {i : Nat} (h : i < (qj s).length) : (((ByteArray.mk (qj s).toArray).get! i).toNat : Int) = qh s i := by
 unfold qh
 rw [Int.toNat_natCast, List.getElem?_eq_getElem h]
 show ((((qj s).toArray)[i]!).toNat : Int) = _
 rw [getElem!_pos ((qj s).toArray) i (by simpa using h)]
 simp
theorem vK {s q : Int} (h0 : 0 ≤ q) (h1 : q < qy s) : (qh s q < 128 ∧ mM s q = qh s q ∧ yw s q = 1) ∨ (128 ≤ qh s q ∧ 128 ≤ mM s q ∧ 1 ≤ yw s q) := by
 obtain ⟨A, rfl⟩ := Int.eq_ofNat_of_zero_le h0
 have hl : A < (qj s).length := by unfold qy at h1; omega
 have hb := UH hl
 unfold mM yw
 rw [Int.toNat_natCast]
 unfold Utf8.decode
 simp only [Nat.add_zero]
 split
 · rename_i h
   left
   exact ⟨by omega, by omega, rfl⟩
 · rename_i h
   right
   refine ⟨by omega, ?_⟩
   have e : (Utf8.runeError : Nat) = 65533 := rfl
   split
   · split
     · rename_i h2; simp only at h2 ⊢; omega
     · rw [e]; simp only; omega
   · split
     · split
       · rename_i h2; simp only [Bool.and_eq_true, decide_eq_true_eq] at h2 ⊢; omega
       · rw [e]; simp only; omega
     · split
       · split
         · rename_i h2; simp only [Bool.and_eq_true, decide_eq_true_eq] at h2 ⊢; omega
         · rw [e]; simp only; omega
       · rw [e]; simp only; omega
theorem width_le {s q : Int} (h0 : 0 ≤ q) (h1 : q < qy s) : q + yw s q ≤ qy s := by
 obtain ⟨A, rfl⟩ := Int.eq_ofNat_of_zero_le h0
 have hl : A < (qj s).length := by unfold qy at h1; omega
 unfold yw
 rw [Int.toNat_natCast, Lib.decode_at]
 have hsz : (ByteArray.mk (qj s).toArray).size = (qj s).length := by
   show (qj s).toArray.size = _
   simp
 have := Lib.decodeN_le_n' ((ByteArray.mk (qj s).toArray).size - A) ((ByteArray.mk (qj s).toArray).get! A).toNat ((ByteArray.mk (qj s).toArray).get! (A + 1)).toNat ((ByteArray.mk (qj s).toArray).get! (A + 2)).toNat ((ByteArray.mk (qj s).toArray).get! (A + 3)).toNat (by omega)
 unfold qy
 omega
theorem Yj {s j : Int} (h : qy s ≤ j) : qh s j = 0 := by
 unfold qh
 rw [List.getElem?_eq_none (by unfold qy at h; omega)]; rfl
theorem LA (s v : Int) : IxI s v 0 v := fun hv _ => ⟨hv, fun j h0 h1 => by omega⟩
theorem qwP {s v q u : Int} (h : IxI s v q u) (hq : qy s ≤ q) : IxI s v (qy s) u := fun hv hj => by
 obtain ⟨h1, h2⟩ := h hv fun j h0 h1 => by
   by_cases hl : j < qy s
   · exact hj j h0 hl
   · rw [Yj (by omega)]; omega
 exact ⟨h1, fun j h3 h4 => h2 j h3 (by omega)⟩
theorem EP {s v q u : Int} (h : IxI s v q u) (h0 : 0 ≤ q) (h1 : q < qy s) (hr : mM s q ≠ 34) (hb : ¬ (mM s q = 32 ∧ u = 0)) : IxI s v (q + yw s q) u := fun hv hj => by
 have hw : 1 ≤ yw s q := by rcases vK h0 h1 with h | h <;> omega
 obtain ⟨h2, h3⟩ := h hv fun j hj0 hj1 => hj j hj0 (by omega)
 refine ⟨h2, fun j hj0 hj1 => ?_⟩
 rcases vK h0 h1 with ⟨g1, g2, g3⟩ | ⟨g1, g2, g3⟩
 · by_cases hjq : j = q
   · subst hjq
     intro e
     exact hb ⟨by rw [g2, e], h2⟩
   · exact h3 j hj0 (by omega)
 · have := (hj q h0 (by omega)).1
   omega
theorem LC {s v q u : Int} (_h : IxI s v q u) (h0 : 0 ≤ q) (h1 : q < qy s) (hr : mM s q = 34) (u' : Int) : IxI s v (q + yw s q) u' := fun _ hj => by
 have hw : 1 ≤ yw s q := by rcases vK h0 h1 with h | h <;> omega
 have := hj q h0 (by omega)
 rcases vK h0 h1 with ⟨g1, g2, g3⟩ | ⟨g1, g2, g3⟩ <;> omega
theorem LU {s v q u : Int} (h : IxI s v q u) (h0 : 0 ≤ q) (h1 : q < qy s) (hr : mM s q = 32) : IxP s v q u := by
 refine .inr ⟨h0, h1, ?_, h⟩
 rcases vK h0 h1 with ⟨g1, g2, g3⟩ | ⟨g1, g2, g3⟩ <;> omega
end Go.Tt
namespace Go.Tt
open Go Go.Sx
set_option maxRecDepth 100000
def e0 : E := (sln (ν 0))
def e1 : E := (κ 100000)
def e2 : E := (fn2 8 (ν 0) (κ 23))
def p3 : PE := (γ ο (ν 3))
def q4 : Tree := (α (.pr 10 [(ν 0), ο, (κ 6)]) .ok)
def e5 : E := (π (ν 3) (κ 1))
def e6 : E := (κ 1000000)
def e7 : E := (fn1 10 (ν 0))
def q8 : Tree := (α (.pr 10 [(ν 0), ο, (κ 7)]) .ok)
def q9 : Tree := (α (γ e0 e6) (η (η (μ (.same (ν 4) e7) (μ (.same (ν 5) (fn1 11 (ν 0))) (μ (ρ e7) (β (.bin .ne (fn1 11 (ν 0)) ο) q8 (β (.bin .lt e7 (κ (-9223372036854775808))) q8 (β (.bin .lt (κ 9223372036854775807) e7) q8 (α (.pr 10 [(ν 0), e7, ο]) .ok))))))))))
def e10 : E := (.bin .le ο (ν 1))
def p11 : PE := (γ (ν 1) e0)
def e12 : E := (.bin .lt (ν 1) e0)
def e13 : E := (fn2 1004 (ν 0) (ν 1))
def e14 : E := (.bin (.bits 1 .u8) e13 (κ 32))
def q15 : Tree := (α (.same ο (fn1 20 (ν 0))) .ok)
def e16 : E := (.bin .le (κ 48) e13)
def e17 : E := (χ (.bin .le e13 (κ 57)) ο)
def e18 : E := (π (ν 1) (κ 1))
def p19 : PE := (γ e18 e0)
def q20 : Tree := (α (γ ο (δ e0 e18)) (α (ω (δ e0 e18) (δ e0 (ν 1))) .ok))
def q21 : Tree := (α (ρ e18) (α (γ ο e18) (α p19 (α (.pr 40 [(ν 0), e18]) q20))))
def q22 : Tree := (β (χ (ν 1) ο) q15 (β (χ (χ e13 (κ 95)) ο) (β e16 (β e17 q15 q21) q15) q21))
def e23 : E := (.bin .le ο (ν 2))
def p24 : PE := (γ (ν 2) e0)
def e25 : E := (.bin .lt (ν 2) e0)
def e26 : E := (fn2 1004 (ν 0) (ν 2))
def q27 : Tree := (α (.pr 41 [(ν 0), (ν 1), ο]) .ok)
def e28 : E := (π (ν 2) (κ 1))
def q29 : Tree := (α (γ ο (δ e0 e28)) (α (ω (δ e0 e28) (δ e0 (ν 2))) .ok))
def q30 : Tree := (α (γ (sln ο) (κ 10000)) .ok)
def e31 : E := (fn1 1004 (ν 0))
def e32 : E := (δ e0 (κ 1))
def e33 : E := (χ (χ (fn2 1004 (ν 0) e32) (κ 34)) ο)
def e34 : E := (sln (ν 1))
def e35 : E := (.bin .le e34 (κ 200))
def p36 : PE := (γ e34 e1)
def p37 : PE := (.pr 41 [(ν 1), (κ 32), (ν 2)])
def e38 : E := (χ (ν 2) ο)
def q39 : Tree := (α (.pr 15 [(ν 0), (ν 1), (ν 2)]) .ok)
def q40 : Tree := (α (.pr 15 [(ν 0), (ν 1), ο]) .ok)
def e41 : E := (.bin .ne (ν 1) ο)
def e42 : E := (χ (fn2 1010 (ν 0) (ν 2)) (κ 32))
def e43 : E := (χ (ν 3) ο)
def e44 : E := (π e0 (κ 1))
def e45 : E := (π (ν 2) (fn2 1011 (ν 0) (ν 2)))
def q46 : Tree := (α (γ ο (δ e0 e45)) (α (ω (δ e0 e45) (δ e0 (ν 2))) .ok))
def q47 : Tree := (α (γ ο e45) (α (γ e45 e0) (α (.pr 36 [(ν 0), (ν 1), e45, e43]) q46)))
def q48 : Tree := (α (γ ο e45) (α (γ e45 e0) (α (.pr 36 [(ν 0), (ν 1), e45, (ν 3)]) q46)))
def p49 : PE := (.pr 22 [.zt, ο])
def q50 : Tree := (α (.pr 16 [(ν 0), .zt, ο, (κ 3)]) .ok)
def p51 : PE := (γ ο (ν 4))
def p52 : PE := (γ (κ (-1)) (ν 5))
def e53 : E := (χ (ν 9) ο)
def q54 : Tree := (α (.pr 16 [(ν 0), .zt, ο, (κ 6)]) .ok)
def p55 : PE := (γ (sln (ν 8)) e1)
def p56 : PE := (.pr 15 [(κ 1), (ν 8), (ν 10)])
def e57 : E := (χ (ν 10) ο)
def e58 : E := (π (ν 4) (κ 1))
def e59 : E := (υ (υ (ν 3) (ν 4) 0 (κ 1)) (ν 4) 1 (ν 8))
def e60 : E := (υ (υ (ν 3) (ν 4) 0 ο) (ν 4) 1 (ν 1))
def e61 : E := (.fn 1003 (ν 1) ο (ν 5) ο)
def e62 : E := (π (ν 5) (κ 1))
def e63 : E := (.fn 1003 (ν 1) e62 e34 ο)
def q64 : Tree := (α (γ ο (sln e63)) (α (ω (sln e63) e34) .ok))
def e65 : E := (υ (υ (ν 3) (ν 4) 0 ο) (ν 4) 1 e61)
def p66 : PE := (γ (sln ο) e1)
def q67 : Tree := (α p66 (α (.pr 33 [(ν 0), (ν 1), (ν 2), (ν 3), ο, (ν 1), (ν 2), (κ 1)]) .ok))
def p68 : PE := (ω ο (ν 2))
def p69 : PE := (γ (κ 1) (ν 2))
def p70 : PE := (γ (ν 2) (ν 2))
def e71 : E := (δ (ν 2) (κ 1))
def p72 : PE := (γ ο (ν 6))
def p73 : PE := (γ ο (ν 7))
def p74 : PE := (γ (sln (ν 5)) e1)
def e75 : E := (ξ (ν 0) (π (ν 2) (ν 4)) 0)
def q76 : Tree := (α (γ ο (δ (ν 3) e58)) (α (ω (δ (ν 3) e58) (δ (ν 3) (ν 4))) .ok))
def e77 : E := (κ (-1000000000000))
def q78 : Tree := (α (.pr 82 [(ν 0), (ν 2), (ν 3), (.bin .le ο (ν 4))]) .ok)
def e79 : E := (κ 1000000000000)
def e80 : E := (sln (ν 2))
def p81 : PE := (γ e80 e1)
def q82 : Tree := (α (.pr 31 [(ν 0), (ν 1), (ν 2), (ν 3), (ν 4), (ν 5), (ν 6), (ν 7), (κ 2)]) .ok)
def e83 : E := (χ (ν 6) ο)
def e84 : E := (χ (ν 7) ο)
def e85 : E := (.bin .le ο (ν 0))
def e86 : E := (υ .zt ο 0 ο)
def e87 : E := (υ (υ (υ (υ (υ (υ (υ (υ (υ (υ (υ (υ (υ e86 (κ 1) 0 (κ 1)) (κ 2) 0 (κ 2)) (κ 3) 0 (κ 2)) (κ 4) 0 (κ 2)) (κ 5) 0 (κ 2)) (κ 6) 0 (κ 2)) (κ 7) 0 (κ 2)) (κ 8) 0 (κ 2)) (κ 9) 0 ο) (κ 10) 0 ο) (κ 11) 0 ο) (κ 12) 0 ο) (κ 13) 0 (κ 2))
def e88 : E := (υ (υ e86 (κ 1) 0 ο) (κ 2) 0 ο)
def e89 : E := (υ (υ (υ (υ (υ (υ (υ (υ (υ (υ (υ e88 (κ 3) 0 (κ 1)) (κ 4) 0 (κ 1)) (κ 5) 0 (κ 2)) (κ 6) 0 ο) (κ 7) 0 (κ 2)) (κ 8) 0 (κ 2)) (κ 9) 0 ο) (κ 10) 0 ο) (κ 11) 0 ο) (κ 12) 0 ο) (κ 13) 0 ο)
def e90 : E := (χ (ξ e89 (ν 0) 0) ο)
def e91 : E := (.bin .ne (ν 2) ο)
def e92 : E := (fn1 20 (ν 2))
def e93 : E := (υ (υ (υ (υ (υ (υ (υ (υ (υ (υ (υ (υ (υ e86 (κ 1) 0 (κ 3)) (κ 2) 0 ο) (κ 3) 0 (κ 2)) (κ 4) 0 ο) (κ 5) 0 ο) (κ 6) 0 ο) (κ 7) 0 (κ 1)) (κ 8) 0 (κ 2)) (κ 9) 0 (κ 1)) (κ 10) 0 ο) (κ 11) 0 (κ 1)) (κ 12) 0 (κ 3)) (κ 13) 0 ο)
def e94 : E := (ξ e93 (ν 0) 0)
def p95 : PE := (γ e94 (κ 3))
def e96 : E := (δ (κ 3) e94)
def p97 : PE := (γ (π e94 e96) (κ 3))
def p98 : PE := (γ e96 (κ 1000))
def e99 : E := (υ (υ (υ .zt ο 0 (ν 3)) (κ 1) 0 (ν 4)) (κ 2) 0 (ν 5))
def nW : Tree := (α (.pr 31 [(ν 0), (ν 1), (ν 2), (ν 3), (ν 4), (ν 5), (ν 6), (ν 7), (κ 7)]) .ok)
def e101 : E := (χ (ν 6) (κ 1))
def e102 : E := (χ (ν 6) (κ 2))
def Ag : Tree := (α (.pr 31 [(ν 0), (ν 1), (ν 2), (ν 3), (ν 4), (ν 5), (ν 6), (ν 7), ο]) .ok)
def PX : Tree := (β e102 (β (.bin .lt (ν 7) (κ 1)) nW (β (.bin .lt (κ 999) (ν 7)) nW Ag)) Ag)
def Av : Tree := (β e101 (β (.bin .lt (ν 7) e77) nW (β (.bin .lt e79 (ν 7)) nW PX)) PX)
def qkT : PE := (.pr 81 [e99, e94, e96, (ν 9)])
def Va : Tree := (α (.pr 31 [(ν 0), (ν 1), (ν 2), (ν 3), (ν 4), (ν 5), (ν 6), (ν 7), (κ 6)]) .ok)
def qkd : Tree := (α (γ ο e94) (α p95 (α (γ ο e96) (α p97 (α p98 (η (μ qkT (β (ν 9) q82 Va))))))))
def qkb : Tree := (α (γ ο e94) (α p95 (α (γ ο e96) (α p97 (α p98 (η (μ qkT (β (ν 9) q82 (η (μ (.pr 82 [e99, ο, (κ 3), (ν 10)]) (β (ν 10) nW Av)))))))))))
def e110 : E := (χ (fn1 20 (ν 1)) ο)
def qkS : PE := (.pr 81 [e99, e94, e96, (ν 10)])
def Ay : Tree := (α (γ ο e94) (α p95 (α (γ ο e96) (α p97 (α p98 (η (μ qkS (β (ν 10) q82 Va))))))))
def qkg : Tree := (α (.tt e85) (β (χ (ξ e87 (ν 0) 0) ο) (β e41 (β e90 (β e91 q82 q82) (η (μ (.same (ν 8) e92) (β (χ e92 ο) q82 q82)))) (β e90 (β e91 q82 (α (γ ο e94) (α p95 (α (γ ο e96) (α p97 (α p98 (η (μ (.pr 81 [e99, e94, e96, (ν 8)]) (β (ν 8) q82 (η (μ (.pr 82 [e99, ο, (κ 3), (ν 9)]) (β (ν 9) nW Av)))))))))))) (η (μ (.same (ν 8) e92) (β (χ e92 ο) qkd qkb))))) (η (μ (.same (ν 8) (fn1 20 (ν 1))) (β e110 (β e90 (β e91 q82 qkd) (η (μ (.same (ν 9) e92) (β (χ e92 ο) Ay Ay)))) (β e90 (β e91 q82 qkb) (η (μ (.same (ν 9) e92) (β (χ e92 ο) Ay (α (γ ο e94) (α p95 (α (γ ο e96) (α p97 (α p98 (η (μ qkS (β (ν 10) q82 (η (μ (.pr 82 [e99, ο, (κ 3), (ν 11)]) (β (ν 11) nW Av))))))))))))))))))))
def VB : PE := (.pr 43 [(ν 0), (ν 1), (ν 2), (ν 3), (ν 4), (ν 5), (ν 6), (ν 7)])
def e115 : E := (.bin .lt ο e94)
def e116 : E := (fn1 3 (ν 3))
def CO : PE := (.same (ν 8) e116)
def e118 : E := (.bin .lt (κ 1) e94)
def e119 : E := (fn1 3 (ν 4))
def CU : PE := (.same (ν 9) e119)
def e121 : E := (.bin .lt (κ 2) e94)
def e122 : E := (fn1 3 (ν 5))
def CS : PE := (.same (ν 10) e122)
def e124 : E := (fn1 3 (ν 7))
def gV : PE := (.same (ν 11) e124)
def e126 : E := (κ 56327174044082)
def e127 : E := (κ (-17231794176406323))
def e128 : E := (κ (-55764601025338))
def e129 : E := (κ (-252115039034))
def e130 : E := (κ (-219919530809))
def e131 : E := (κ (-252148397367))
def e132 : E := (κ (-56325194363706))
def e133 : E := (υ (υ (υ (υ (υ (υ (υ (υ (υ (υ (υ (υ (υ e86 (κ 1) 0 e126) (κ 2) 0 e127) (κ 3) 0 (κ 215691474609)) (κ 4) 0 (κ 909750583)) (κ 5) 0 e128) (κ 6) 0 e129) (κ 7) 0 (κ (-850475063))) (κ 8) 0 (κ 220011707066)) (κ 9) 0 (κ (-909260091))) (κ 10) 0 e130) (κ 11) 0 e131) (κ 12) 0 e132) (κ 13) 0 (κ (-859061045)))
def e134 : E := (υ .zt ο 0 (ξ e133 (ν 0) 0))
def e135 : E := (υ e134 (κ 1) 0 (ν 1))
def e136 : E := (υ e135 (κ 2) 0 (ν 2))
def e137 : E := (υ e136 (κ 3) 0 e116)
def e138 : E := (υ e137 (κ 4) 0 e119)
def e139 : E := (υ e138 (κ 5) 0 e122)
def e140 : E := (υ (υ e139 (κ 6) 0 (κ 14901)) (κ 7) 0 e124)
def e141 : E := (.fn 5 e140 (κ 8) (κ (-17)) ο)
def e142 : E := (κ (-250025947444))
def e143 : E := (υ (υ e139 (κ 6) 0 e142) (κ 7) 0 e124)
def e144 : E := (.fn 5 e143 (κ 8) (κ (-17)) ο)
def e145 : E := (.fn 5 e139 (κ 6) (κ (-17)) ο)
def gX : PE := (.same (ν 10) e124)
def e147 : E := (υ (υ e138 (κ 5) 0 (κ 14901)) (κ 6) 0 e124)
def e148 : E := (.fn 5 e147 (κ 7) (κ (-17)) ο)
def e149 : E := (υ (υ e138 (κ 5) 0 e142) (κ 6) 0 e124)
def e150 : E := (.fn 5 e149 (κ 7) (κ (-17)) ο)
def e151 : E := (.fn 5 e138 (κ 5) (κ (-17)) ο)
def mY : PE := (.same (ν 9) e124)
def e153 : E := (υ (υ e137 (κ 4) 0 (κ 14901)) (κ 5) 0 e124)
def e154 : E := (.fn 5 e153 (κ 6) (κ (-17)) ο)
def e155 : E := (υ (υ e137 (κ 4) 0 e142) (κ 5) 0 e124)
def e156 : E := (.fn 5 e155 (κ 6) (κ (-17)) ο)
def e157 : E := (.fn 5 e137 (κ 4) (κ (-17)) ο)
def YT : PE := (.same (ν 8) e124)
def e159 : E := (υ (υ e136 (κ 3) 0 (κ 14901)) (κ 4) 0 e124)
def e160 : E := (.fn 5 e159 (κ 5) (κ (-17)) ο)
def e161 : E := (υ (υ e136 (κ 3) 0 e142) (κ 4) 0 e124)
def e162 : E := (.fn 5 e161 (κ 5) (κ (-17)) ο)
def e163 : E := (.fn 5 e136 (κ 3) (κ (-17)) ο)
def e164 : E := (υ e135 (κ 2) 0 e116)
def e165 : E := (υ e164 (κ 3) 0 e119)
def e166 : E := (υ e165 (κ 4) 0 e122)
def e167 : E := (υ (υ e166 (κ 5) 0 (κ 14901)) (κ 6) 0 e124)
def e168 : E := (.fn 5 e167 (κ 7) (κ (-17)) ο)
def e169 : E := (υ (υ e166 (κ 5) 0 e142) (κ 6) 0 e124)
def e170 : E := (.fn 5 e169 (κ 7) (κ (-17)) ο)
def e171 : E := (.fn 5 e166 (κ 5) (κ (-17)) ο)
def e172 : E := (υ (υ e165 (κ 4) 0 (κ 14901)) (κ 5) 0 e124)
def e173 : E := (.fn 5 e172 (κ 6) (κ (-17)) ο)
def e174 : E := (υ (υ e165 (κ 4) 0 e142) (κ 5) 0 e124)
def e175 : E := (.fn 5 e174 (κ 6) (κ (-17)) ο)
def e176 : E := (.fn 5 e165 (κ 4) (κ (-17)) ο)
def e177 : E := (υ (υ e164 (κ 3) 0 (κ 14901)) (κ 4) 0 e124)
def e178 : E := (.fn 5 e177 (κ 5) (κ (-17)) ο)
def e179 : E := (υ (υ e164 (κ 3) 0 e142) (κ 4) 0 e124)
def e180 : E := (.fn 5 e179 (κ 5) (κ (-17)) ο)
def e181 : E := (.fn 5 e164 (κ 3) (κ (-17)) ο)
def e182 : E := (υ (υ e135 (κ 2) 0 (κ 14901)) (κ 3) 0 e124)
def e183 : E := (.fn 5 e182 (κ 4) (κ (-17)) ο)
def e184 : E := (υ (υ e135 (κ 2) 0 e142) (κ 3) 0 e124)
def e185 : E := (.fn 5 e184 (κ 4) (κ (-17)) ο)
def e186 : E := (.fn 5 e135 (κ 2) (κ (-17)) ο)
def e187 : E := (υ e134 (κ 1) 0 (ν 2))
def e188 : E := (υ e187 (κ 2) 0 e116)
def e189 : E := (υ e188 (κ 3) 0 e119)
def e190 : E := (υ e189 (κ 4) 0 e122)
def e191 : E := (υ (υ e190 (κ 5) 0 (κ 14901)) (κ 6) 0 e124)
def e192 : E := (.fn 5 e191 (κ 7) (κ (-17)) ο)
def e193 : E := (υ (υ e190 (κ 5) 0 e142) (κ 6) 0 e124)
def e194 : E := (.fn 5 e193 (κ 7) (κ (-17)) ο)
def e195 : E := (.fn 5 e190 (κ 5) (κ (-17)) ο)
def e196 : E := (υ (υ e189 (κ 4) 0 (κ 14901)) (κ 5) 0 e124)
def e197 : E := (.fn 5 e196 (κ 6) (κ (-17)) ο)
def e198 : E := (υ (υ e189 (κ 4) 0 e142) (κ 5) 0 e124)
def e199 : E := (.fn 5 e198 (κ 6) (κ (-17)) ο)
def e200 : E := (.fn 5 e189 (κ 4) (κ (-17)) ο)
def e201 : E := (υ (υ e188 (κ 3) 0 (κ 14901)) (κ 4) 0 e124)
def e202 : E := (.fn 5 e201 (κ 5) (κ (-17)) ο)
def e203 : E := (υ (υ e188 (κ 3) 0 e142) (κ 4) 0 e124)
def e204 : E := (.fn 5 e203 (κ 5) (κ (-17)) ο)
def e205 : E := (.fn 5 e188 (κ 3) (κ (-17)) ο)
def e206 : E := (υ (υ e187 (κ 2) 0 (κ 14901)) (κ 3) 0 e124)
def e207 : E := (.fn 5 e206 (κ 4) (κ (-17)) ο)
def e208 : E := (υ (υ e187 (κ 2) 0 e142) (κ 3) 0 e124)
def e209 : E := (.fn 5 e208 (κ 4) (κ (-17)) ο)
def e210 : E := (.fn 5 e187 (κ 2) (κ (-17)) ο)
def e211 : E := (υ e134 (κ 1) 0 e116)
def e212 : E := (υ e211 (κ 2) 0 e119)
def e213 : E := (υ e212 (κ 3) 0 e122)
def e214 : E := (υ (υ e213 (κ 4) 0 (κ 14901)) (κ 5) 0 e124)
def e215 : E := (.fn 5 e214 (κ 6) (κ (-17)) ο)
def e216 : E := (υ (υ e213 (κ 4) 0 e142) (κ 5) 0 e124)
def e217 : E := (.fn 5 e216 (κ 6) (κ (-17)) ο)
def e218 : E := (.fn 5 e213 (κ 4) (κ (-17)) ο)
def e219 : E := (υ (υ e212 (κ 3) 0 (κ 14901)) (κ 4) 0 e124)
def e220 : E := (.fn 5 e219 (κ 5) (κ (-17)) ο)
def e221 : E := (υ (υ e212 (κ 3) 0 e142) (κ 4) 0 e124)
def e222 : E := (.fn 5 e221 (κ 5) (κ (-17)) ο)
def e223 : E := (.fn 5 e212 (κ 3) (κ (-17)) ο)
def e224 : E := (υ (υ e211 (κ 2) 0 (κ 14901)) (κ 3) 0 e124)
def e225 : E := (.fn 5 e224 (κ 4) (κ (-17)) ο)
def e226 : E := (υ (υ e211 (κ 2) 0 e142) (κ 3) 0 e124)
def e227 : E := (.fn 5 e226 (κ 4) (κ (-17)) ο)
def e228 : E := (.fn 5 e211 (κ 2) (κ (-17)) ο)
def e229 : E := (υ (υ e134 (κ 1) 0 (κ 14901)) (κ 2) 0 e124)
def e230 : E := (.fn 5 e229 (κ 3) (κ (-17)) ο)
def e231 : E := (υ (υ e134 (κ 1) 0 e142) (κ 2) 0 e124)
def e232 : E := (.fn 5 e231 (κ 3) (κ (-17)) ο)
def e233 : E := (.fn 5 e134 (κ 1) (κ (-17)) ο)
def AO : PE := (.pr 16 [(ν 0), (ν 1), (ν 2), (ν 3)])
def TH : Tree := (α p66 (α (.pr 34 [(ν 0), ο, ο, ο, ο, ο, ο, ο, ο, ο]) .ok))
def aC : PE := (γ ο (ν 5))
def yM : PE := (γ ο (ν 9))
def dw : PE := (γ ο (ν 10))
def l9 : PE := (γ (π (ν 9) (ν 10)) (ν 2))
def Zz : PE := (.pr 33 [(ν 1), (ν 5), (ν 6), (ν 7), (ν 8), (ν 9), (ν 10), (ν 11)])
def bF : PE := (ρ (ν 12))
def e242 : E := (.bin .le ο (ν 13))
def dz : PE := (.tt e242)
def e244 : E := (.bin .le ο (ν 14))
def su : PE := (.tt e244)
def sw : PE := (γ (π (ν 13) (ν 14)) (ν 2))
def CP : PE := (.pr 38 [(ν 1), (ν 9), (ν 10), (ν 11), (ν 12), (ν 13), (ν 14), (ν 15)])
def vC : PE := (ρ (ν 16))
def xX : PE := (γ ο (ν 17))
def vT : PE := (γ ο (ν 18))
def vS : PE := (γ (π (ν 17) (ν 18)) (ν 2))
def sj : PE := (.pr 38 [(ν 1), (ν 13), (ν 14), (ν 15), (ν 16), (ν 17), (ν 18), (ν 19)])
def JO : PE := (ρ (ν 20))
def l8 : PE := (γ ο (ν 21))
def aT : PE := (γ ο (ν 22))
def aS : PE := (γ (π (ν 21) (ν 22)) (ν 2))
def VG : PE := (.pr 38 [(ν 1), (ν 17), (ν 18), (ν 19), (ν 20), (ν 21), (ν 22), (ν 23)])
def e258 : E := (χ (ν 22) ο)
def e259 : E := (χ (ν 23) ο)
def aR : PE := (γ ο (ν 25))
def JI : PE := (γ ο (ν 26))
def JU : PE := (γ (π (ν 25) (ν 26)) (ν 2))
def AU : PE := (γ (sln (ν 24)) e1)
def AL : PE := (.pr 33 [(ν 1), (ν 21), (ν 22), (ν 23), (ν 24), (ν 25), (ν 26), (ν 27)])
def e265 : E := (χ (ν 24) (κ 14901))
def aP : PE := (ρ (ν 28))
def JL : PE := (γ ο (ν 29))
def JC : PE := (γ ο (ν 30))
def JR : PE := (γ (π (ν 29) (ν 30)) (ν 2))
def DF : PE := (.pr 38 [(ν 1), (ν 25), (ν 26), (ν 27), (ν 28), (ν 29), (ν 30), (ν 31)])
def e271 : E := (χ (ν 31) ο)
def e272 : E := (χ (ν 30) ο)
def AP : PE := (.pr 38 [(ν 1), (ν 25), (ν 26), (κ 1), (ν 28), (ν 29), (ν 30), (ν 31)])
def e274 : E := (χ (ν 11) ο)
def iR : PE := (γ (sln (ν 12)) e1)
def Zq : PE := (.pr 33 [(ν 1), (ν 9), (ν 10), (ν 11), (ν 12), (ν 13), (ν 14), (ν 15)])
def e277 : E := (χ (ν 12) (κ 14901))
def e278 : E := (χ (ν 19) ο)
def e279 : E := (χ (ν 18) ο)
def e280 : E := (χ (ν 12) e142)
def Rj : PE := (.pr 38 [(ν 1), (ν 13), (ν 14), (κ 1), (ν 16), (ν 17), (ν 18), (ν 19)])
def e282 : E := (χ (ν 14) ο)
def e283 : E := (χ (ν 15) ο)
def qkR : PE := (.pr 33 [(ν 1), (ν 13), (ν 14), (ν 15), (ν 16), (ν 17), (ν 18), (ν 19)])
def qkP : PE := (.pr 38 [(ν 1), (ν 17), (ν 18), (κ 1), (ν 20), (ν 21), (ν 22), (ν 23)])
def qkN : PE := (γ (sln (ν 20)) e1)
def qkM : PE := (.pr 33 [(ν 1), (ν 17), (ν 18), (ν 19), (ν 20), (ν 21), (ν 22), (ν 23)])
def DX : PE := (ρ (ν 24))
def CF : PE := (.pr 38 [(ν 1), (ν 21), (ν 22), (ν 23), (ν 24), (ν 25), (ν 26), (ν 27)])
def e290 : E := (χ (ν 27) ο)
def e291 : E := (χ (ν 26) ο)
def qkH : PE := (.pr 38 [(ν 1), (ν 21), (ν 22), (κ 1), (ν 24), (ν 25), (ν 26), (ν 27)])
def AB : PE := (.pr 38 [(ν 1), (ν 5), (ν 6), (ν 7), (ν 8), (ν 9), (ν 10), (ν 11)])
def qkv : Tree := (β (χ e126 (ν 4)) (η (η (η (η (μ yM (μ dw (μ l9 (μ p55 (μ Zz (η (η (η (η (μ bF (μ dz (μ su (μ sw (μ CP (η (η (η (η (μ vC (μ xX (μ vT (μ vS (μ sj (η (η (η (η (μ JO (μ l8 (μ aT (μ aS (μ VG (β e258 (β e259 (α p66 (α (.pr 34 [(ν 0), (κ 1), (ν 8), ο, (ν 12), (ν 16), (ν 20), ο, ο, e258]) .ok)) (α p66 (α (.pr 34 [(ν 0), (κ 1), (ν 8), ο, (ν 12), (ν 16), (ν 20), ο, ο, ο]) .ok))) (η (η (η (η (μ aR (μ JI (μ JU (μ AU (μ AL (β e265 (η (η (η (η (μ aP (μ JL (μ JC (μ JR (μ DF (β e271 (α p66 (α (.pr 34 [(ν 0), (κ 1), (ν 8), ο, (ν 12), (ν 16), (ν 20), (κ 1), (ν 28), e272]) .ok)) (α p66 (α (.pr 34 [(ν 0), (κ 1), (ν 8), ο, (ν 12), (ν 16), (ν 20), (κ 1), (ν 28), ο]) .ok)))))))))))) (β (χ (ν 24) e142) (η (η (η (η (μ aP (μ JL (μ JC (μ JR (μ DF (β e271 (α p66 (α (.pr 34 [(ν 0), (κ 1), (ν 8), ο, (ν 12), (ν 16), (ν 20), (κ 2), (ν 28), e272]) .ok)) (α p66 (α (.pr 34 [(ν 0), (κ 1), (ν 8), ο, (ν 12), (ν 16), (ν 20), (κ 2), (ν 28), ο]) .ok)))))))))))) (η (η (η (η (μ aP (μ JL (μ JC (μ JR (μ AP (β e271 (α p66 (α (.pr 34 [(ν 0), (κ 1), (ν 8), ο, (ν 12), (ν 16), (ν 20), ο, (ν 28), e272]) .ok)) (α p66 (α (.pr 34 [(ν 0), (κ 1), (ν 8), ο, (ν 12), (ν 16), (ν 20), ο, (ν 28), ο]) .ok)))))))))))))))))))))))))))))))))))))))))))))))))))))))))))) (β (χ e127 (ν 4)) (η (η (η (η (μ yM (μ dw (μ l9 (μ p55 (μ Zz (β e57 (β e274 (α p66 (α (.pr 34 [(ν 0), (κ 2), (ν 8), ο, ο, ο, ο, ο, ο, e57]) .ok)) (α p66 (α (.pr 34 [(ν 0), (κ 2), (ν 8), ο, ο, ο, ο, ο, ο, ο]) .ok))) (η (η (η (η (μ dz (μ su (μ sw (μ iR (μ Zq (β e277 (η (η (η (η (μ vC (μ xX (μ vT (μ vS (μ sj (β e278 (α p66 (α (.pr 34 [(ν 0), (κ 2), (ν 8), ο, ο, ο, ο, (κ 1), (ν 16), e279]) .ok)) (α p66 (α (.pr 34 [(ν 0), (κ 2), (ν 8), ο, ο, ο, ο, (κ 1), (ν 16), ο]) .ok)))))))))))) (β e280 (η (η (η (η (μ vC (μ xX (μ vT (μ vS (μ sj (β e278 (α p66 (α (.pr 34 [(ν 0), (κ 2), (ν 8), ο, ο, ο, ο, (κ 2), (ν 16), e279]) .ok)) (α p66 (α (.pr 34 [(ν 0), (κ 2), (ν 8), ο, ο, ο, ο, (κ 2), (ν 16), ο]) .ok)))))))))))) (η (η (η (η (μ vC (μ xX (μ vT (μ vS (μ Rj (β e278 (α p66 (α (.pr 34 [(ν 0), (κ 2), (ν 8), ο, ο, ο, ο, ο, (ν 16), e279]) .ok)) (α p66 (α (.pr 34 [(ν 0), (κ 2), (ν 8), ο, ο, ο, ο, ο, (ν 16), ο]) .ok))))))))))))))))))))))))))))))))) (β (χ (κ 215691474609) (ν 4)) (η (η (η (η (μ yM (μ dw (μ l9 (μ p55 (μ Zz (η (η (η (η (μ dz (μ su (μ sw (μ iR (μ Zq (η (η (η (η (μ vC (μ xX (μ vT (μ vS (μ sj (η (η (η (η (μ JO (μ l8 (μ aT (μ aS (μ VG (β e258 (β e259 (α (.pr 34 [(ν 0), (κ 3), (ν 8), (ν 12), (ν 16), (ν 20), ο, ο, ο, e258]) .ok) (α (.pr 34 [(ν 0), (κ 3), (ν 8), (ν 12), (ν 16), (ν 20), ο, ο, ο, ο]) .ok)) (η (η (η (η (μ aR (μ JI (μ JU (μ AU (μ AL (β e265 (η (η (η (η (μ aP (μ JL (μ JC (μ JR (μ DF (β e271 (α (.pr 34 [(ν 0), (κ 3), (ν 8), (ν 12), (ν 16), (ν 20), ο, (κ 1), (ν 28), e272]) .ok) (α (.pr 34 [(ν 0), (κ 3), (ν 8), (ν 12), (ν 16), (ν 20), ο, (κ 1), (ν 28), ο]) .ok))))))))))) (β (χ (ν 24) e142) (η (η (η (η (μ aP (μ JL (μ JC (μ JR (μ DF (β e271 (α (.pr 34 [(ν 0), (κ 3), (ν 8), (ν 12), (ν 16), (ν 20), ο, (κ 2), (ν 28), e272]) .ok) (α (.pr 34 [(ν 0), (κ 3), (ν 8), (ν 12), (ν 16), (ν 20), ο, (κ 2), (ν 28), ο]) .ok))))))))))) (η (η (η (η (μ aP (μ JL (μ JC (μ JR (μ AP (β e271 (α (.pr 34 [(ν 0), (κ 3), (ν 8), (ν 12), (ν 16), (ν 20), ο, ο, (ν 28), e272]) .ok) (α (.pr 34 [(ν 0), (κ 3), (ν 8), (ν 12), (ν 16), (ν 20), ο, ο, (ν 28), ο]) .ok))))))))))))))))))))))))))))))))))))))))))))))))))))))))))) (β (χ (κ 909750583) (ν 4)) (η (η (η (η (μ yM (μ dw (μ l9 (μ p55 (μ Zz (η (η (η (η (μ dz (μ su (μ sw (μ iR (μ Zq (β e282 (β e283 (α (.pr 34 [(ν 0), (κ 4), (ν 8), (ν 12), ο, ο, ο, ο, ο, e282]) .ok) (α (.pr 34 [(ν 0), (κ 4), (ν 8), (ν 12), ο, ο, ο, ο, ο, ο]) .ok)) (η (η (η (η (μ xX (μ vT (μ vS (μ (γ (sln (ν 16)) e1) (μ qkR (β (χ (ν 16) (κ 14901)) (η (η (η (η (μ JO (μ l8 (μ aT (μ aS (μ VG (β e259 (α (.pr 34 [(ν 0), (κ 4), (ν 8), (ν 12), ο, ο, ο, (κ 1), (ν 20), e258]) .ok) (α (.pr 34 [(ν 0), (κ 4), (ν 8), (ν 12), ο, ο, ο, (κ 1), (ν 20), ο]) .ok))))))))))) (β (χ (ν 16) e142) (η (η (η (η (μ JO (μ l8 (μ aT (μ aS (μ VG (β e259 (α (.pr 34 [(ν 0), (κ 4), (ν 8), (ν 12), ο, ο, ο, (κ 2), (ν 20), e258]) .ok) (α (.pr 34 [(ν 0), (κ 4), (ν 8), (ν 12), ο, ο, ο, (κ 2), (ν 20), ο]) .ok))))))))))) (η (η (η (η (μ JO (μ l8 (μ aT (μ aS (μ qkP (β e259 (α (.pr 34 [(ν 0), (κ 4), (ν 8), (ν 12), ο, ο, ο, ο, (ν 20), e258]) .ok) (α (.pr 34 [(ν 0), (κ 4), (ν 8), (ν 12), ο, ο, ο, ο, (ν 20), ο]) .ok))))))))))))))))))))))))))))))))))))))))) (β (χ e128 (ν 4)) (η (η (η (η (μ yM (μ dw (μ l9 (μ p55 (μ Zz (η (η (η (η (μ dz (μ su (μ sw (μ iR (μ Zq (β e282 (β e283 (α (.pr 34 [(ν 0), (κ 5), (ν 8), (ν 12), ο, ο, ο, ο, ο, e282]) .ok) (α (.pr 34 [(ν 0), (κ 5), (ν 8), (ν 12), ο, ο, ο, ο, ο, ο]) .ok)) (η (η (η (η (μ xX (μ vT (μ vS (μ (γ (sln (ν 16)) e1) (μ qkR (β (χ (ν 16) (κ 14901)) (η (η (η (η (μ JO (μ l8 (μ aT (μ aS (μ VG (β e259 (α (.pr 34 [(ν 0), (κ 5), (ν 8), (ν 12), ο, ο, ο, (κ 1), (ν 20), e258]) .ok) (α (.pr 34 [(ν 0), (κ 5), (ν 8), (ν 12), ο, ο, ο, (κ 1), (ν 20), ο]) .ok))))))))))) (β (χ (ν 16) e142) (η (η (η (η (μ JO (μ l8 (μ aT (μ aS (μ VG (β e259 (α (.pr 34 [(ν 0), (κ 5), (ν 8), (ν 12), ο, ο, ο, (κ 2), (ν 20), e258]) .ok) (α (.pr 34 [(ν 0), (κ 5), (ν 8), (ν 12), ο, ο, ο, (κ 2), (ν 20), ο]) .ok))))))))))) (η (η (η (η (μ JO (μ l8 (μ aT (μ aS (μ qkP (β e259 (α (.pr 34 [(ν 0), (κ 5), (ν 8), (ν 12), ο, ο, ο, ο, (ν 20), e258]) .ok) (α (.pr 34 [(ν 0), (κ 5), (ν 8), (ν 12), ο, ο, ο, ο, (ν 20), ο]) .ok))))))))))))))))))))))))))))))))))))))))) (β (χ e129 (ν 4)) (η (η (η (η (μ yM (μ dw (μ l9 (μ p55 (μ Zz (β e57 (β e274 (α p66 (α (.pr 34 [(ν 0), (κ 6), (ν 8), ο, ο, ο, ο, ο, ο, e57]) .ok)) (α p66 (α (.pr 34 [(ν 0), (κ 6), (ν 8), ο, ο, ο, ο, ο, ο, ο]) .ok))) (η (η (η (η (μ dz (μ su (μ sw (μ iR (μ Zq (β e277 (η (η (η (η (μ vC (μ xX (μ vT (μ vS (μ sj (β e278 (α p66 (α (.pr 34 [(ν 0), (κ 6), (ν 8), ο, ο, ο, ο, (κ 1), (ν 16), e279]) .ok)) (α p66 (α (.pr 34 [(ν 0), (κ 6), (ν 8), ο, ο, ο, ο, (κ 1), (ν 16), ο]) .ok)))))))))))) (β e280 (η (η (η (η (μ vC (μ xX (μ vT (μ vS (μ sj (β e278 (α p66 (α (.pr 34 [(ν 0), (κ 6), (ν 8), ο, ο, ο, ο, (κ 2), (ν 16), e279]) .ok)) (α p66 (α (.pr 34 [(ν 0), (κ 6), (ν 8), ο, ο, ο, ο, (κ 2), (ν 16), ο]) .ok)))))))))))) (η (η (η (η (μ vC (μ xX (μ vT (μ vS (μ Rj (β e278 (α p66 (α (.pr 34 [(ν 0), (κ 6), (ν 8), ο, ο, ο, ο, ο, (ν 16), e279]) .ok)) (α p66 (α (.pr 34 [(ν 0), (κ 6), (ν 8), ο, ο, ο, ο, ο, (ν 16), ο]) .ok))))))))))))))))))))))))))))))))) (β (χ (κ (-850475063)) (ν 4)) (η (η (η (η (μ yM (μ dw (μ l9 (μ p55 (μ Zz (η (η (η (η (μ dz (μ su (μ sw (μ iR (μ Zq (η (η (η (η (μ vC (μ xX (μ vT (μ vS (μ sj (β e279 (β e278 (α (.pr 34 [(ν 0), (κ 7), (ν 8), (ν 12), (ν 16), ο, ο, ο, ο, e279]) .ok) (α (.pr 34 [(ν 0), (κ 7), (ν 8), (ν 12), (ν 16), ο, ο, ο, ο, ο]) .ok)) (η (η (η (η (μ l8 (μ aT (μ aS (μ qkN (μ qkM (β (χ (ν 20) (κ 14901)) (η (η (η (η (μ DX (μ aR (μ JI (μ JU (μ CF (β e290 (α (.pr 34 [(ν 0), (κ 7), (ν 8), (ν 12), (ν 16), ο, ο, (κ 1), (ν 24), e291]) .ok) (α (.pr 34 [(ν 0), (κ 7), (ν 8), (ν 12), (ν 16), ο, ο, (κ 1), (ν 24), ο]) .ok))))))))))) (β (χ (ν 20) e142) (η (η (η (η (μ DX (μ aR (μ JI (μ JU (μ CF (β e290 (α (.pr 34 [(ν 0), (κ 7), (ν 8), (ν 12), (ν 16), ο, ο, (κ 2), (ν 24), e291]) .ok) (α (.pr 34 [(ν 0), (κ 7), (ν 8), (ν 12), (ν 16), ο, ο, (κ 2), (ν 24), ο]) .ok))))))))))) (η (η (η (η (μ DX (μ aR (μ JI (μ JU (μ qkH (β e290 (α (.pr 34 [(ν 0), (κ 7), (ν 8), (ν 12), (ν 16), ο, ο, ο, (ν 24), e291]) .ok) (α (.pr 34 [(ν 0), (κ 7), (ν 8), (ν 12), (ν 16), ο, ο, ο, (ν 24), ο]) .ok)))))))))))))))))))))))))))))))))))))))))))))))))) (β (χ (κ 220011707066) (ν 4)) (η (η (η (η (μ yM (μ dw (μ l9 (μ p55 (μ Zz (η (η (η (η (μ dz (μ su (μ sw (μ iR (μ Zq (η (η (η (η (μ vC (μ xX (μ vT (μ vS (μ sj (η (η (η (η (μ JO (μ l8 (μ aT (μ aS (μ VG (β e258 (β e259 (α (.pr 34 [(ν 0), (κ 8), (ν 8), (ν 12), (ν 16), (ν 20), ο, ο, ο, e258]) .ok) (α (.pr 34 [(ν 0), (κ 8), (ν 8), (ν 12), (ν 16), (ν 20), ο, ο, ο, ο]) .ok)) (η (η (η (η (μ aR (μ JI (μ JU (μ AU (μ AL (β e265 (η (η (η (η (μ aP (μ JL (μ JC (μ JR (μ DF (β e271 (α (.pr 34 [(ν 0), (κ 8), (ν 8), (ν 12), (ν 16), (ν 20), ο, (κ 1), (ν 28), e272]) .ok) (α (.pr 34 [(ν 0), (κ 8), (ν 8), (ν 12), (ν 16), (ν 20), ο, (κ 1), (ν 28), ο]) .ok))))))))))) (β (χ (ν 24) e142) (η (η (η (η (μ aP (μ JL (μ JC (μ JR (μ DF (β e271 (α (.pr 34 [(ν 0), (κ 8), (ν 8), (ν 12), (ν 16), (ν 20), ο, (κ 2), (ν 28), e272]) .ok) (α (.pr 34 [(ν 0), (κ 8), (ν 8), (ν 12), (ν 16), (ν 20), ο, (κ 2), (ν 28), ο]) .ok))))))))))) (η (η (η (η (μ aP (μ JL (μ JC (μ JR (μ AP (β e271 (α (.pr 34 [(ν 0), (κ 8), (ν 8), (ν 12), (ν 16), (ν 20), ο, ο, (ν 28), e272]) .ok) (α (.pr 34 [(ν 0), (κ 8), (ν 8), (ν 12), (ν 16), (ν 20), ο, ο, (ν 28), ο]) .ok))))))))))))))))))))))))))))))))))))))))))))))))))))))))))) (β (χ (κ (-909260091)) (ν 4)) (η (η (η (η (μ (ρ (ν 8)) (μ yM (μ dw (μ l9 (μ AB (β e57 (β e274 (α p66 (α (.pr 34 [(ν 0), (κ 9), ο, ο, (ν 8), ο, ο, ο, ο, e57]) .ok)) (α p66 (α (.pr 34 [(ν 0), (κ 9), ο, ο, (ν 8), ο, ο, ο, ο, ο]) .ok))) (η (η (η (η (μ dz (μ su (μ sw (μ iR (μ Zq (β e277 (η (η (η (η (μ vC (μ xX (μ vT (μ vS (μ sj (β e278 (α p66 (α (.pr 34 [(ν 0), (κ 9), ο, ο, (ν 8), ο, ο, (κ 1), (ν 16), e279]) .ok)) (α p66 (α (.pr 34 [(ν 0), (κ 9), ο, ο, (ν 8), ο, ο, (κ 1), (ν 16), ο]) .ok)))))))))))) (β e280 (η (η (η (η (μ vC (μ xX (μ vT (μ vS (μ sj (β e278 (α p66 (α (.pr 34 [(ν 0), (κ 9), ο, ο, (ν 8), ο, ο, (κ 2), (ν 16), e279]) .ok)) (α p66 (α (.pr 34 [(ν 0), (κ 9), ο, ο, (ν 8), ο, ο, (κ 2), (ν 16), ο]) .ok)))))))))))) (η (η (η (η (μ vC (μ xX (μ vT (μ vS (μ Rj (β e278 (α p66 (α (.pr 34 [(ν 0), (κ 9), ο, ο, (ν 8), ο, ο, ο, (ν 16), e279]) .ok)) (α p66 (α (.pr 34 [(ν 0), (κ 9), ο, ο, (ν 8), ο, ο, ο, (ν 16), ο]) .ok))))))))))))))))))))))))))))))))) (β (χ e130 (ν 4)) (β e83 (β e84 (α p66 (α (.pr 34 [(ν 0), (κ 10), ο, ο, ο, ο, ο, ο, ο, e83]) .ok)) (α p66 (α (.pr 34 [(ν 0), (κ 10), ο, ο, ο, ο, ο, ο, ο, ο]) .ok))) (η (η (η (η (μ yM (μ dw (μ l9 (μ p55 (μ Zz (β (χ (ν 8) (κ 14901)) (η (η (η (η (μ bF (μ dz (μ su (μ sw (μ CP (β e283 (α p66 (α (.pr 34 [(ν 0), (κ 10), ο, ο, ο, ο, ο, (κ 1), (ν 12), e282]) .ok)) (α p66 (α (.pr 34 [(ν 0), (κ 10), ο, ο, ο, ο, ο, (κ 1), (ν 12), ο]) .ok)))))))))))) (β (χ (ν 8) e142) (η (η (η (η (μ bF (μ dz (μ su (μ sw (μ CP (β e283 (α p66 (α (.pr 34 [(ν 0), (κ 10), ο, ο, ο, ο, ο, (κ 2), (ν 12), e282]) .ok)) (α p66 (α (.pr 34 [(ν 0), (κ 10), ο, ο, ο, ο, ο, (κ 2), (ν 12), ο]) .ok)))))))))))) (η (η (η (η (μ bF (μ dz (μ su (μ sw (μ (.pr 38 [(ν 1), (ν 9), (ν 10), (κ 1), (ν 12), (ν 13), (ν 14), (ν 15)]) (β e283 (α p66 (α (.pr 34 [(ν 0), (κ 10), ο, ο, ο, ο, ο, ο, (ν 12), e282]) .ok)) (α p66 (α (.pr 34 [(ν 0), (κ 10), ο, ο, ο, ο, ο, ο, (ν 12), ο]) .ok)))))))))))))))))))))))) (β (χ e131 (ν 4)) (η (η (η (η (μ (ρ (ν 8)) (μ yM (μ dw (μ l9 (μ AB (β e57 (β e274 (α p66 (α (.pr 34 [(ν 0), (κ 11), ο, ο, (ν 8), ο, ο, ο, ο, e57]) .ok)) (α p66 (α (.pr 34 [(ν 0), (κ 11), ο, ο, (ν 8), ο, ο, ο, ο, ο]) .ok))) (η (η (η (η (μ dz (μ su (μ sw (μ iR (μ Zq (β e277 (η (η (η (η (μ vC (μ xX (μ vT (μ vS (μ sj (β e278 (α p66 (α (.pr 34 [(ν 0), (κ 11), ο, ο, (ν 8), ο, ο, (κ 1), (ν 16), e279]) .ok)) (α p66 (α (.pr 34 [(ν 0), (κ 11), ο, ο, (ν 8), ο, ο, (κ 1), (ν 16), ο]) .ok)))))))))))) (β e280 (η (η (η (η (μ vC (μ xX (μ vT (μ vS (μ sj (β e278 (α p66 (α (.pr 34 [(ν 0), (κ 11), ο, ο, (ν 8), ο, ο, (κ 2), (ν 16), e279]) .ok)) (α p66 (α (.pr 34 [(ν 0), (κ 11), ο, ο, (ν 8), ο, ο, (κ 2), (ν 16), ο]) .ok)))))))))))) (η (η (η (η (μ vC (μ xX (μ vT (μ vS (μ Rj (β e278 (α p66 (α (.pr 34 [(ν 0), (κ 11), ο, ο, (ν 8), ο, ο, ο, (ν 16), e279]) .ok)) (α p66 (α (.pr 34 [(ν 0), (κ 11), ο, ο, (ν 8), ο, ο, ο, (ν 16), ο]) .ok))))))))))))))))))))))))))))))))) (β (χ e132 (ν 4)) (η (η (η (η (μ (ρ (ν 8)) (μ yM (μ dw (μ l9 (μ AB (η (η (η (η (μ bF (μ dz (μ su (μ sw (μ CP (η (η (η (η (μ vC (μ xX (μ vT (μ vS (μ sj (β e279 (β e278 (α p66 (α (.pr 34 [(ν 0), (κ 12), ο, ο, (ν 8), (ν 12), (ν 16), ο, ο, e279]) .ok)) (α p66 (α (.pr 34 [(ν 0), (κ 12), ο, ο, (ν 8), (ν 12), (ν 16), ο, ο, ο]) .ok))) (η (η (η (η (μ l8 (μ aT (μ aS (μ qkN (μ qkM (β (χ (ν 20) (κ 14901)) (η (η (η (η (μ DX (μ aR (μ JI (μ JU (μ CF (β e290 (α p66 (α (.pr 34 [(ν 0), (κ 12), ο, ο, (ν 8), (ν 12), (ν 16), (κ 1), (ν 24), e291]) .ok)) (α p66 (α (.pr 34 [(ν 0), (κ 12), ο, ο, (ν 8), (ν 12), (ν 16), (κ 1), (ν 24), ο]) .ok)))))))))))) (β (χ (ν 20) e142) (η (η (η (η (μ DX (μ aR (μ JI (μ JU (μ CF (β e290 (α p66 (α (.pr 34 [(ν 0), (κ 12), ο, ο, (ν 8), (ν 12), (ν 16), (κ 2), (ν 24), e291]) .ok)) (α p66 (α (.pr 34 [(ν 0), (κ 12), ο, ο, (ν 8), (ν 12), (ν 16), (κ 2), (ν 24), ο]) .ok)))))))))))) (η (η (η (η (μ DX (μ aR (μ JI (μ JU (μ qkH (β e290 (α p66 (α (.pr 34 [(ν 0), (κ 12), ο, ο, (ν 8), (ν 12), (ν 16), ο, (ν 24), e291]) .ok)) (α p66 (α (.pr 34 [(ν 0), (κ 12), ο, ο, (ν 8), (ν 12), (ν 16), ο, (ν 24), ο]) .ok))))))))))))))))))))))))))))))))))))))))))))))))))) (β (χ (κ (-859061045)) (ν 4)) (η (η (η (η (μ yM (μ dw (μ l9 (μ p55 (μ Zz (β e57 (β e274 (α p66 (α (.pr 34 [(ν 0), (κ 13), (ν 8), ο, ο, ο, ο, ο, ο, e57]) .ok)) (α p66 (α (.pr 34 [(ν 0), (κ 13), (ν 8), ο, ο, ο, ο, ο, ο, ο]) .ok))) (η (η (η (η (μ dz (μ su (μ sw (μ iR (μ Zq (β e277 (η (η (η (η (μ vC (μ xX (μ vT (μ vS (μ sj (β e278 (α p66 (α (.pr 34 [(ν 0), (κ 13), (ν 8), ο, ο, ο, ο, (κ 1), (ν 16), e279]) .ok)) (α p66 (α (.pr 34 [(ν 0), (κ 13), (ν 8), ο, ο, ο, ο, (κ 1), (ν 16), ο]) .ok)))))))))))) (β e280 (η (η (η (η (μ vC (μ xX (μ vT (μ vS (μ sj (β e278 (α p66 (α (.pr 34 [(ν 0), (κ 13), (ν 8), ο, ο, ο, ο, (κ 2), (ν 16), e279]) .ok)) (α p66 (α (.pr 34 [(ν 0), (κ 13), (ν 8), ο, ο, ο, ο, (κ 2), (ν 16), ο]) .ok)))))))))))) (η (η (η (η (μ vC (μ xX (μ vT (μ vS (μ Rj (β e278 (α p66 (α (.pr 34 [(ν 0), (κ 13), (ν 8), ο, ο, ο, ο, ο, (ν 16), e279]) .ok)) (α p66 (α (.pr 34 [(ν 0), (κ 13), (ν 8), ο, ο, ο, ο, ο, (ν 16), ο]) .ok))))))))))))))))))))))))))))))))) (α p66 (α (.pr 34 [(ν 0), (κ (-1)), ο, ο, ο, ο, ο, ο, ο, ο]) .ok)))))))))))))))
def e295 : E := (χ (χ (ν 8) ο) ο)
def e296 : E := (fn1 3 (δ ο (ν 0)))
def e297 : E := (fn1 3 (ν 0))
def e298 : E := (.bin (.bits 6 .i64) (ν 0) (κ 10))
def e299 : E := (.bin .tmod (ν 0) (κ 10))
def e300 : E := (fn1 3 (δ ο e299))
def e301 : E := (υ .zt ο 0 (.wrap .u8 (π (κ 48) (ν 0))))
def JB : Tree := (α (.pr 11 [(ν 0), ο]) .ok)
def TF : Tree := (α (.pr 11 [(ν 0), (.bin .ne (ν 0) (κ 6295))]) .ok)
def qkx : Tree := (β e16 (β e17 JB (α (ρ e18) (α (γ ο e18) (α p19 q20)))) JB)
def qky : Tree := (β (χ e31 (κ 48)) (β (.bin .lt (κ 1) e0) JB TF) TF)
def e306 : E := (fn2 12 (ν 0) (ν 2))
def e307 : E := (.wrap .i64 (.wrap .u8 (δ e26 (κ 48))))
def e308 : E := (.wrap .i64 e28)
def e309 : E := (.wrap .i64 (.bin .mul (κ 10) e306))
def e310 : E := (fn2 12 (ν 0) e308)
def Aw : Tree := (α (γ ο (δ e0 e308)) (α (ω (δ e0 e308) (δ e0 (ν 2))) .ok))
def qkw : Tree := (α (γ ο e308) (α (γ e308 e0) (α (.same e306 e310) Aw)))
def qkk : Tree := (α (γ (ν 1) e28) (α (γ e28 e0) (α (.pr 12 [(ν 0), (ν 1), e28]) .ok)))
def e314 : E := (π (ν 2) (κ 2))
def qkj : Tree := (α (ρ e28) (α (γ (ν 1) e28) (α (γ e28 e0) (α (.pr 13 [(ν 0), (ν 1), e28]) q29))))
def qkz : Tree := (α (γ e0 e0) (α (.pr 12 [(ν 0), (ν 1), e0]) .ok))
def Dc : Tree := (α p66 .ok)
def e318 : E := (π (ν 1) (κ 2))
def e319 : E := (sln (fn2 1002 (ν 2) (.fn 1003 (ν 0) (ν 1) e18 ο)))
def e320 : E := (.fn 1003 (ν 0) (ν 1) (ν 4) ο)
def e321 : E := (χ (χ (fn2 1004 (ν 0) (ν 4)) (κ 32)) ο)
def e322 : E := (υ (υ (ν 2) (ν 3) 0 (κ 1)) (ν 3) 1 (ν 5))
def qkq : Tree := (α (γ ο (δ e44 e58)) (α (ω (δ e44 e58) (δ e44 (ν 1))) .ok))
def qj9 : Tree := (α (γ ο e58) (α (γ e58 e44) (α (γ ο e5) (α (γ e5 e58) (α (.pr 22 [e322, e5]) (α (.pr 17 [(ν 0), e58, e322, e5]) qkq))))))
def e325 : E := (υ (υ (ν 2) (ν 3) 0 ο) (ν 3) 1 e320)
def qj8 : Tree := (α (γ ο e58) (α (γ e58 e44) (α (γ ο e5) (α (γ e5 e58) (α (.pr 22 [e325, e5]) (α (.pr 17 [(ν 0), e58, e325, e5]) qkq))))))
def TD : Tree := (β (χ (χ e13 (κ 95)) ο) q15 q21)
def qj7 : Tree := (β (.bin .le (κ 65) e13) (β (χ (.bin .le e13 (κ 90)) ο) (β e16 (β e17 TD q21) TD) q21) (β e16 (β e17 TD q21) TD))
def qj6 : Tree := (α (γ ο e0) (α (.pr 40 [(ν 0), ο]) (η (μ (.tt e10) (μ p11 (μ (.pr 40 [(ν 0), (ν 1)]) (β e12 (β (.bin .le (κ 97) e13) (β (.bin .le e13 (κ 122)) q21 qj7) qj7) (α (.same (κ 1) (fn1 20 (ν 0))) .ok))))))))
def qj5 : Tree := (β (.bin .le (κ 65) e31) (β (χ (.bin .le e31 (κ 90)) ο) q15 qj6) q15)
def e331 : E := (.bin .lt (ξ (ν 9) (ν 0) 3) (κ 1))
def e332 : E := (.bin .lt (ξ (ν 9) (ν 0) 3) (κ 2))
def e333 : E := (χ (χ (ν 4) ο) ο)
def e334 : E := (.bin .lt (ξ (ν 9) (ν 0) 3) (κ 3))
def e335 : E := (χ (χ (ν 5) ο) ο)
def PY : Tree := (β (.bin .le e77 (ν 3)) (β (χ (.bin .le (ν 3) e79) ο) nW (β (.bin .le e77 (ν 4)) (β (χ (.bin .le (ν 4) e79) ο) nW (β (.bin .le e77 (ν 5)) (β (χ (.bin .le (ν 5) e79) ο) nW (β e101 (β (.bin .le e77 (ν 7)) (β (χ (.bin .le (ν 7) e79) ο) nW PX) nW) PX)) nW)) nW)) nW)
def qj4 : Tree := (β e334 (β e335 q82 PY) PY)
def qj3 : Tree := (β e332 (β e333 q82 qj4) qj4)
def qj2 : Tree := (η (μ (.same (ν 10) e92) (β (χ e92 ο) Va PY)))
def qj1 : Tree := (β e334 (β e335 q82 qj2) qj2)
def qj0 : Tree := (β e332 (β e333 q82 qj1) qj1)
def qjE : Tree := (η (μ (.same (ν 10) (fn1 20 (ν 1))) (β e110 Va PY)))
def qjA : Tree := (β e334 (β e335 q82 qjE) qjE)
def qjO : Tree := (β e332 (β e333 q82 qjA) qjA)
def qjI : Tree := (η (μ (.same (ν 10) (fn1 20 (ν 1))) (β e110 Va (η (μ (.same (ν 11) e92) (β (χ e92 ο) Va PY))))))
def qjU : Tree := (β e334 (β e335 q82 qjI) qjI)
def qjL : Tree := (β e332 (β e333 q82 qjU) qjU)
def qjC : Tree := (τ (μ (.pr 80 [(ν 9)]) (α (.tt e85) (β (χ (ξ (ν 9) (ν 0) 1) (κ 23)) (β e41 q82 (β (χ (ξ (ν 9) (ν 0) 2) (κ 23)) (β e91 q82 (β e331 (β (χ e43 ο) q82 qj3) qj3)) (β e331 (β (χ e43 ο) q82 qj0) qj0))) (β (χ (ξ (ν 9) (ν 0) 2) (κ 23)) (β e91 q82 (β e331 (β (χ e43 ο) q82 qjO) qjO)) (β e331 (β (χ e43 ο) q82 qjL) qjL))))))
def JN : PE := (.pr 23 [.zt, ο])
def e350 : E := (π (ν 6) (κ 1))
def Ak : Tree := (α (γ ο (δ (ν 2) e58)) (α (ω (δ (ν 2) e58) (δ (ν 2) (ν 4))) .ok))
def VX : PE := (.pr 23 [(ν 1), (ν 2)])
def AX : PE := (.pr 55 [(ν 0), (ν 1), (ν 2), (ν 3)])
def e354 : E := (ξ (ν 1) ο 0)
def qjT : Tree := (α (γ ο (δ (κ 14) e62)) (α (ω (δ (κ 14) e62) (δ (κ 14) (ν 5))) .ok))
def iH : Tree := (α (ρ (ν 6)) (α p66 (α (.pr 34 [(ν 0), (ν 6), ο, ο, ο, ο, ο, ο, ο, ο]) .ok)))
def e357 : E := (ξ (ν 4) (ν 6) 3)
def e358 : E := (π e357 (κ 1))
def e359 : E := (.bin .ne (ξ (ν 4) (ν 6) 2) (κ 23))
def e360 : E := (π e357 (κ 2))
def Rz : PE := (ω e360 e71)
def Rq : PE := (γ ο (π (κ 1) e360))
def P9 : PE := (ω (π (κ 1) e360) (ν 2))
def e364 : E := (ξ (ν 1) (π (κ 1) e360) 0)
def e365 : E := (π e357 (κ 3))
def qkF : PE := (γ (sln (ξ (ν 1) (π (κ 1) e365) 0)) e1)
def qkD : PE := (.pr 10 [(ξ (ν 1) (π (κ 1) e365) 0), (ν 7), (ν 8)])
def Vo : Tree := (α (ρ (ν 6)) (α p66 (α (.pr 34 [(ν 0), (ν 6), ο, ο, ο, ο, ο, (κ 1), (ν 7), ο]) .ok)))
def aN : PE := (ω (κ 1) (ν 2))
def DY : PE := (ω ο e358)
def P8 : PE := (ω (κ 2) (ν 2))
def DW : PE := (γ (κ 1) e358)
def DK : PE := (γ e358 e358)
def VY : PE := (γ ο e357)
def YS : PE := (γ e357 (κ 3))
def AY : PE := (.pr 58 [(ν 1), (κ 3), ο, ο, ο, ο])
def YR : PE := (γ e357 e357)
def YP : PE := (γ (ν 9) (ν 13))
def YN : PE := (γ (ν 13) (κ 3))
def qkB : PE := (.pr 58 [(ν 1), (κ 3), (ν 9), (ν 10), (ν 11), (ν 12)])
def YM : PE := (γ (ν 13) e357)
def YH : PE := (γ e357 (ν 13))
def nV : PE := (ρ (ν 10))
def tV : PE := (ρ (ν 11))
def e385 : E := (.bin .lt (ν 9) (ν 13))
def qkG : PE := (γ (sln (ξ (ν 1) (π (κ 3) (ν 9)) 0)) e1)
def Q9 : PE := (ρ (ν 14))
def qkV : PE := (.pr 10 [(ξ (ν 1) (π (κ 3) (ν 9)) 0), (ν 14), (ν 15)])
def e389 : E := (χ (ν 9) (κ 2))
def e390 : E := (χ e283 ο)
def e391 : E := (ξ (ν 1) (κ 1) 0)
def bD : PE := (γ (sln e391) e1)
def e393 : E := (ξ (ν 1) (κ 2) 0)
def YF : PE := (γ (sln e393) e1)
def Aj : Tree := (α (ρ (ν 6)) (α bD (α YF (α (.pr 34 [(ν 0), (ν 6), e391, e393, ο, ο, ο, (κ 1), (ν 7), ο]) .ok))))
def e396 : E := (π (ν 9) (κ 1))
def JM : PE := (γ ο e396)
def JH : PE := (γ e396 (ν 13))
def JG : Tree := (α (γ ο (δ (ν 13) e396)) (α (ω (δ (ν 13) e396) (δ (ν 13) (ν 9))) .ok))
def qjS : Tree := (α (ρ e396) (α JM (α JH (α (.pr 58 [(ν 1), (κ 3), e396, (ν 10), (ν 11), (ν 14)]) JG))))
def e401 : E := (χ (ν 9) (κ 1))
def qjR : Tree := (α (ρ e396) (α JM (α JH (α (.pr 58 [(ν 1), (κ 3), e396, (ν 10), (ν 14), (ν 12)]) JG))))
def qjP : Tree := (α (ρ e396) (α JM (α JH (α (.pr 58 [(ν 1), (κ 3), e396, (ν 14), (ν 11), (ν 12)]) JG))))
def iF : Tree := (.fail 29)
def Vi : Tree := (α (ρ (ν 6)) (α p66 (α (.pr 34 [(ν 0), (ν 6), ο, ο, ο, ο, ο, (κ 2), (ν 7), ο]) .ok)))
def Az : Tree := (α (ρ (ν 6)) (α bD (α YF (α (.pr 34 [(ν 0), (ν 6), e391, e393, ο, ο, ο, (κ 2), (ν 7), ο]) .ok))))
def qjN : Tree := (α (γ ο e360) (α Rz (α Rq (α P9 (β (χ e364 (κ 14901)) (α (ρ e365) (α (γ ο e365) (α (ω e365 e71) (α (γ ο (π (κ 1) e365)) (α (ω (π (κ 1) e365) (ν 2)) (α qkF (η (η (μ (ρ (ν 7)) (μ qkD (β e295 Vo (α (γ e360 e71) (α (ω ο e360) (α aN (α (γ (κ 1) e360) (α (γ e360 e360) (α DY (α P8 (α DW (α DK (α VY (α YS (α AY (α YR (η (η (η (η (η (μ yM (μ YP (μ YN (μ qkB (μ YM (μ YH (μ nV (μ tV (μ bF (β e385 (α (γ ο (π (κ 3) (ν 9))) (α (ω (π (κ 3) (ν 9)) (ν 2)) (α qkG (η (η (μ Q9 (μ qkV (β e389 (β e390 Aj qjS) (β e401 (β e390 Aj qjR) (β e53 (β e390 Aj qjP) iF)))))))))) (α (ρ (ν 6)) (α bD (α YF (α (.pr 34 [(ν 0), (ν 6), e391, e393, (ν 10), (ν 11), (ν 12), (κ 1), (ν 7), (κ 1)]) .ok))))))))))))))))))))))))))))))))))))))))))) (β (χ e364 e142) (α (ρ e365) (α (γ ο e365) (α (ω e365 e71) (α (γ ο (π (κ 1) e365)) (α (ω (π (κ 1) e365) (ν 2)) (α qkF (η (η (μ (ρ (ν 7)) (μ qkD (β e295 Vi (α (γ e360 e71) (α (ω ο e360) (α aN (α (γ (κ 1) e360) (α (γ e360 e360) (α DY (α P8 (α DW (α DK (α VY (α YS (α AY (α YR (η (η (η (η (η (μ yM (μ YP (μ YN (μ qkB (μ YM (μ YH (μ nV (μ tV (μ bF (β e385 (α (γ ο (π (κ 3) (ν 9))) (α (ω (π (κ 3) (ν 9)) (ν 2)) (α qkG (η (η (μ Q9 (μ qkV (β e389 (β e390 Az qjS) (β e401 (β e390 Az qjR) (β e53 (β e390 Az qjP) iF)))))))))) (α (ρ (ν 6)) (α bD (α YF (α (.pr 34 [(ν 0), (ν 6), e391, e393, (ν 10), (ν 11), (ν 12), (κ 2), (ν 7), (κ 1)]) .ok))))))))))))))))))))))))))))))))))))))))))) iH))))))
def e408 : E := (δ e71 (κ 1))
def e409 : E := (δ e408 (κ 1))
def CB : PE := (γ (ν 7) (ν 11))
def CG : PE := (γ (ν 11) (κ 3))
def CV : PE := (γ (ν 11) e357)
def CX : PE := (γ e357 (ν 11))
def e414 : E := (.bin .lt (ν 7) (ν 11))
def e415 : E := (χ (ν 7) (κ 2))
def e416 : E := (χ (χ (ν 13) ο) ο)
def Aq : Tree := (α (ρ (ν 6)) (α bD (α YF (α (.pr 34 [(ν 0), (ν 6), e391, e393, ο, ο, ο, ο, ο, ο]) .ok))))
def e418 : E := (π (ν 7) (κ 1))
def JF : PE := (γ ο e418)
def JD : PE := (γ e418 (ν 11))
def JV : Tree := (α (γ ο (δ (ν 11) e418)) (α (ω (δ (ν 11) e418) (δ (ν 11) (ν 7))) .ok))
def e422 : E := (χ (ν 7) (κ 1))
def CY : PE := (γ ο (π (κ 1) e358))
def CW : PE := (ω (π (κ 1) e358) (ν 2))
def e425 : E := (ξ (ν 1) (π (κ 1) e358) 0)
def CJ : PE := (γ (sln e364) e1)
def CZ : PE := (.pr 10 [e364, (ν 7), (ν 8)])
def DJ : PE := (.pr 58 [(ν 1), (κ 2), ο, ο, ο, ο])
def CQ : PE := (.pr 58 [(ν 1), (κ 2), (ν 9), (ν 10), (ν 11), (ν 12)])
def Ce : PE := (γ ο (π (κ 2) (ν 9)))
def Ca : PE := (ω (π (κ 2) (ν 9)) (ν 2))
def Co : PE := (γ (sln (ξ (ν 1) (π (κ 2) (ν 9)) 0)) e1)
def Ci : PE := (.pr 10 [(ξ (ν 1) (π (κ 2) (ν 9)) 0), (ν 14), (ν 15)])
def O9 : Tree := (α (ρ (ν 6)) (α bD (α p66 (α (.pr 34 [(ν 0), (ν 6), e391, ο, ο, ο, ο, (κ 1), (ν 7), ο]) .ok))))
def TB : Tree := (α (ρ e396) (α JM (α JH (α (.pr 58 [(ν 1), (κ 2), e396, (ν 10), (ν 11), (ν 14)]) JG))))
def TG : Tree := (α (ρ e396) (α JM (α JH (α (.pr 58 [(ν 1), (κ 2), e396, (ν 10), (ν 14), (ν 12)]) JG))))
def TV : Tree := (α (ρ e396) (α JM (α JH (α (.pr 58 [(ν 1), (κ 2), e396, (ν 14), (ν 11), (ν 12)]) JG))))
def O8 : Tree := (α (ρ (ν 6)) (α bD (α p66 (α (.pr 34 [(ν 0), (ν 6), e391, ο, ο, ο, ο, (κ 2), (ν 7), ο]) .ok))))
def qjM : Tree := (α (γ ο e358) (α (ω e358 e71) (α CY (α CW (β (χ e425 (κ 14901)) (α (ρ e360) (α (γ ο e360) (α Rz (α Rq (α P9 (α CJ (η (η (μ (ρ (ν 7)) (μ CZ (β e295 Vo (α (γ e358 e71) (α DY (α aN (α DW (α DK (α VY (α YS (α DJ (α YR (η (η (η (η (η (μ yM (μ YP (μ YN (μ CQ (μ YM (μ YH (μ nV (μ tV (μ bF (β e385 (α Ce (α Ca (α Co (η (η (μ Q9 (μ Ci (β e389 (β e390 O9 TB) (β e401 (β e390 O9 TG) (β e53 (β e390 O9 TV) iF)))))))))) (α (ρ (ν 6)) (α bD (α p66 (α (.pr 34 [(ν 0), (ν 6), e391, ο, (ν 10), (ν 11), (ν 12), (κ 1), (ν 7), (κ 1)]) .ok))))))))))))))))))))))))))))))))))))))) (β (χ e425 e142) (α (ρ e360) (α (γ ο e360) (α Rz (α Rq (α P9 (α CJ (η (η (μ (ρ (ν 7)) (μ CZ (β e295 Vi (α (γ e358 e71) (α DY (α aN (α DW (α DK (α VY (α YS (α DJ (α YR (η (η (η (η (η (μ yM (μ YP (μ YN (μ CQ (μ YM (μ YH (μ nV (μ tV (μ bF (β e385 (α Ce (α Ca (α Co (η (η (μ Q9 (μ Ci (β e389 (β e390 O8 TB) (β e401 (β e390 O8 TG) (β e53 (β e390 O8 TV) iF)))))))))) (α (ρ (ν 6)) (α bD (α p66 (α (.pr 34 [(ν 0), (ν 6), e391, ο, (ν 10), (ν 11), (ν 12), (κ 2), (ν 7), (κ 1)]) .ok))))))))))))))))))))))))))))))))))))))) iH))))))
def qkX : PE := (.pr 58 [(ν 1), (κ 2), (ν 7), (ν 8), (ν 9), (ν 10)])
def qkY : PE := (γ (sln (ξ (ν 1) (π (κ 2) (ν 7)) 0)) e1)
def qkW : PE := (.pr 10 [(ξ (ν 1) (π (κ 2) (ν 7)) 0), (ν 12), (ν 13)])
def O7 : Tree := (α (ρ (ν 6)) (α bD (α p66 (α (.pr 34 [(ν 0), (ν 6), e391, ο, ο, ο, ο, ο, ο, ο]) .ok))))
def qjH : Tree := (α (ρ e418) (α JF (α JD (α (.pr 58 [(ν 1), (κ 2), e418, (ν 8), (ν 9), (ν 12)]) JV))))
def qjF : Tree := (α (ρ e418) (α JF (α JD (α (.pr 58 [(ν 1), (κ 2), e418, (ν 8), (ν 12), (ν 10)]) JV))))
def qjD : Tree := (α (ρ e418) (α JF (α JD (α (.pr 58 [(ν 1), (κ 2), e418, (ν 12), (ν 9), (ν 10)]) JV))))
def O6 : Tree := (α (ρ (ν 6)) (α p66 (α bD (α (.pr 34 [(ν 0), (ν 6), ο, e391, ο, ο, ο, (κ 1), (ν 7), ο]) .ok))))
def O5 : Tree := (α (ρ (ν 6)) (α p66 (α bD (α (.pr 34 [(ν 0), (ν 6), ο, e391, ο, ο, ο, (κ 2), (ν 7), ο]) .ok))))
def qjB : Tree := (α (γ ο e358) (α (ω e358 e71) (α CY (α CW (β (χ e425 (κ 14901)) (α (ρ e360) (α (γ ο e360) (α Rz (α Rq (α P9 (α CJ (η (η (μ (ρ (ν 7)) (μ CZ (β e295 Vo (α (γ e358 e71) (α DY (α aN (α DW (α DK (α VY (α YS (α DJ (α YR (η (η (η (η (η (μ yM (μ YP (μ YN (μ CQ (μ YM (μ YH (μ nV (μ tV (μ bF (β e385 (α Ce (α Ca (α Co (η (η (μ Q9 (μ Ci (β e389 (β e390 O6 TB) (β e401 (β e390 O6 TG) (β e53 (β e390 O6 TV) iF)))))))))) (α (ρ (ν 6)) (α p66 (α bD (α (.pr 34 [(ν 0), (ν 6), ο, e391, (ν 10), (ν 11), (ν 12), (κ 1), (ν 7), (κ 1)]) .ok))))))))))))))))))))))))))))))))))))))) (β (χ e425 e142) (α (ρ e360) (α (γ ο e360) (α Rz (α Rq (α P9 (α CJ (η (η (μ (ρ (ν 7)) (μ CZ (β e295 Vi (α (γ e358 e71) (α DY (α aN (α DW (α DK (α VY (α YS (α DJ (α YR (η (η (η (η (η (μ yM (μ YP (μ YN (μ CQ (μ YM (μ YH (μ nV (μ tV (μ bF (β e385 (α Ce (α Ca (α Co (η (η (μ Q9 (μ Ci (β e389 (β e390 O5 TB) (β e401 (β e390 O5 TG) (β e53 (β e390 O5 TV) iF)))))))))) (α (ρ (ν 6)) (α p66 (α bD (α (.pr 34 [(ν 0), (ν 6), ο, e391, (ν 10), (ν 11), (ν 12), (κ 2), (ν 7), (κ 1)]) .ok))))))))))))))))))))))))))))))))))))))) iH))))))
def O4 : Tree := (α (ρ (ν 6)) (α p66 (α bD (α (.pr 34 [(ν 0), (ν 6), ο, e391, ο, ο, ο, ο, ο, ο]) .ok))))
def AJ : PE := (.pr 58 [(ν 1), (κ 1), ο, ο, ο, ο])
def qkK : PE := (.pr 58 [(ν 1), (κ 1), (ν 9), (ν 10), (ν 11), (ν 12)])
def qkJ : PE := (γ (sln (ξ (ν 1) (π (κ 1) (ν 9)) 0)) e1)
def qkZ : PE := (.pr 10 [(ξ (ν 1) (π (κ 1) (ν 9)) 0), (ν 14), (ν 15)])
def qjG : Tree := (α (ρ e396) (α JM (α JH (α (.pr 58 [(ν 1), (κ 1), e396, (ν 10), (ν 11), (ν 14)]) JG))))
def qjV : Tree := (α (ρ e396) (α JM (α JH (α (.pr 58 [(ν 1), (κ 1), e396, (ν 10), (ν 14), (ν 12)]) JG))))
def qjX : Tree := (α (ρ e396) (α JM (α JH (α (.pr 58 [(ν 1), (κ 1), e396, (ν 14), (ν 11), (ν 12)]) JG))))
def qjY : Tree := (α VY (α (ω e357 e71) (α (γ ο (π (κ 1) e357)) (α (ω (π (κ 1) e357) (ν 2)) (β (χ (ξ (ν 1) (π (κ 1) e357) 0) (κ 14901)) (α (ρ e358) (α (γ ο e358) (α (ω e358 e71) (α CY (α CW (α (γ (sln e425) e1) (η (η (μ (ρ (ν 7)) (μ (.pr 10 [e425, (ν 7), (ν 8)]) (β e295 Vo (α (γ e357 e71) (α YS (α AJ (α YR (η (η (η (η (η (μ yM (μ YP (μ YN (μ qkK (μ YM (μ YH (μ nV (μ tV (μ bF (β e385 (α (γ ο (π (κ 1) (ν 9))) (α (ω (π (κ 1) (ν 9)) (ν 2)) (α qkJ (η (η (μ Q9 (μ qkZ (β e389 (β e390 Vo qjG) (β e401 (β e390 Vo qjV) (β e53 (β e390 Vo qjX) iF)))))))))) (α (ρ (ν 6)) (α p66 (α (.pr 34 [(ν 0), (ν 6), ο, ο, (ν 10), (ν 11), (ν 12), (κ 1), (ν 7), (κ 1)]) .ok))))))))))))))))))))))))))))))))) (β (χ (ξ (ν 1) (π (κ 1) e357) 0) e142) (α (ρ e358) (α (γ ο e358) (α (ω e358 e71) (α CY (α CW (α (γ (sln e425) e1) (η (η (μ (ρ (ν 7)) (μ (.pr 10 [e425, (ν 7), (ν 8)]) (β e295 Vi (α (γ e357 e71) (α YS (α AJ (α YR (η (η (η (η (η (μ yM (μ YP (μ YN (μ qkK (μ YM (μ YH (μ nV (μ tV (μ bF (β e385 (α (γ ο (π (κ 1) (ν 9))) (α (ω (π (κ 1) (ν 9)) (ν 2)) (α qkJ (η (η (μ Q9 (μ qkZ (β e389 (β e390 Vi qjG) (β e401 (β e390 Vi qjV) (β e53 (β e390 Vi qjX) iF)))))))))) (α (ρ (ν 6)) (α p66 (α (.pr 34 [(ν 0), (ν 6), ο, ο, (ν 10), (ν 11), (ν 12), (κ 2), (ν 7), (κ 1)]) .ok))))))))))))))))))))))))))))))))) iH))))))
def JX : Tree := (.fail 100)
def qz2 : Tree := (μ (γ e0 e1) (η (η (μ (.same (ν 1) e2) (μ (.same (ν 2) (fn2 9 (ν 0) (κ 23))) (α (γ ο (sln e2)) (α (.pr 73 [e2, ο]) (η (μ p3 (μ (γ (ν 3) (sln e2)) (μ (.pr 73 [e2, (ν 3)]) (β (.bin .lt (ν 3) (sln e2)) (β (.bin .le (κ 48) (fn2 1004 e2 (ν 3))) (β (χ (.bin .le (fn2 1004 e2 (ν 3)) (κ 57)) ο) q4 (α (ρ e5) (α (γ ο e5) (α (γ e5 (sln e2)) (α (.pr 73 [e2, e5]) (α (γ ο (δ (sln e2) e5)) (α (ω (δ (sln e2) e5) (δ (sln e2) (ν 3))) .ok))))))) q4) (β (χ e2 ο) q4 (α (ω ο (sln e2)) (β (χ (fn1 1004 e2) (κ 48)) (β (.bin .lt (κ 1) (sln e2)) q4 (β (fn2 9 (ν 0) (κ 23)) q4 q9)) q9)))))))))))))))
def SL : Tree := (μ (γ e0 e1) (α (γ ο e0) (α (.pr 40 [(ν 0), ο]) (η (μ (.tt e10) (μ p11 (μ (.pr 40 [(ν 0), (ν 1)]) (β e12 (β (.bin .le (κ 97) e14) (β (χ (.bin .le e14 (κ 122)) ο) q22 q21) q22) (β (.bin .le (κ 1) e0) (α (.same (.bin .le e0 (κ 16)) (fn1 20 (ν 0))) .ok) q15)))))))))
def qzE : Tree := (μ (γ e0 e1) (α (γ ο e0) (α (.pr 42 [(ν 0), (ν 1), ο]) (η (μ (.tt e23) (μ p24 (μ (.pr 42 [(ν 0), (ν 1), (ν 2)]) (β e25 (β (.bin .lt e26 (ν 1)) q27 (β (.bin .lt (κ 126) e26) q27 (α (ρ e28) (α (γ ο e28) (α (γ e28 e0) (α (.pr 42 [(ν 0), (ν 1), e28]) q29)))))) (α (.pr 41 [(ν 0), (ν 1), (κ 1)]) .ok)))))))))
def SX : Tree := (μ (γ e0 (κ 5000)) (β (.bin .lt e0 (κ 2)) q30 (α (ω ο e0) (β (χ (χ e31 (κ 34)) ο) q30 (α (ρ e32) (α (γ ο e32) (α (ω e32 e0) (β e33 q30 (α (γ (κ 1) e32) (α (γ e32 e0) (α (γ (sln (.fn 1003 (ν 0) (κ 1) e32 ο)) (κ 10000)) (η (μ (γ e34 (κ 10000)) (β e35 (α p36 (η (μ p37 (β e38 q30 (η (μ (γ (sln (ν 3)) (κ 20000)) (α (γ (π (κ 1) (sln (ν 3))) e6) (α (γ (π (sln (fn2 1002 (κ (-18)) (ν 3))) (κ 1)) e6) (β (.bin .ne (fn2 1002 (fn2 1002 (κ (-18)) (ν 3)) (κ (-18))) (ν 0)) q30 .ok))))))))) q30))))))))))))))
def qzO : Tree := (μ p36 (β (ν 0) (β e35 (η (μ p37 q39)) q40) (β e41 (β e35 (η (μ (.pr 41 [(ν 1), (κ 33), (ν 2)]) (β (ν 2) (η (μ (.same (ν 3) (fn2 15 (ν 1) (κ 34))) (α (.pr 15 [(ν 0), (ν 1), (χ (fn2 15 (ν 1) (κ 34)) ο)]) .ok))) q40))) q40) q40)))
def qz1 : Tree := (μ (γ e0 e1) (α (γ ο e0) (α (.pr 36 [(ν 0), (ν 1), ο, (ν 1)]) (η (η (μ (.tt e23) (μ p24 (μ (.pr 36 [(ν 0), (ν 1), (ν 2), (ν 3)]) (β e25 (β (χ (fn2 1010 (ν 0) (ν 2)) (κ 34)) (β e42 (β (χ (.bin .ne (χ e43 ο) ο) (κ 1)) (α (γ (κ (-1)) (ν 2)) (α (ω (ν 2) e44) (α (.pr 35 [(ν 0), (ν 1), (ν 2), e43]) .ok))) q47) q47) (β e42 (β (χ (.bin .ne e43 ο) (κ 1)) (α (γ (κ (-1)) (ν 2)) (α (ω (ν 2) e44) (α (.pr 35 [(ν 0), (ν 1), (ν 2), (ν 3)]) .ok))) q48) q48)) (α (ω (κ (-1)) e44) (α (.pr 35 [(ν 0), (ν 1), (κ (-1)), (ν 3)]) .ok)))))))))))
def SG : Tree := (μ (γ e0 e1) (β (.bin .lt (κ 4096) e0) (α p49 q50) (β (χ (ν 0) ο) (α p49 (α (.pr 16 [(ν 0), .zt, ο, ο]) .ok)) (α (γ e0 e0) (α p49 (α (.pr 37 [(ν 0), (ν 0), ο, .zt, ο]) (η (η (τ (η (μ p51 (μ (γ (π (ν 4) e34) e0) (μ (.pr 22 [(ν 3), (ν 4)]) (μ (.pr 37 [(ν 0), (ν 1), (ν 2), (ν 3), (ν 4)]) (α p36 (η (η (μ p52 (μ (ω (ν 5) (π e34 (κ 1))) (μ (.pr 35 [(ν 1), (ν 2), (ν 5), (ν 6)]) (β (.bin .lt (ν 5) ο) (η (μ (.same (ν 7) (fn2 9 (ν 1) (κ (-18)))) (β (fn2 9 (ν 1) (κ (-18))) (α (γ e34 (κ 5000)) (η (η (μ (γ (sln (ν 8)) (κ 10000)) (β (χ e53 ο) q54 (α p55 (η (μ p56 (β e57 q54 (α (γ e58 e6) (β (.bin .lt (κ 64) e58) q50 (α (γ ο e58) (α (.pr 22 [e59, e58]) (α (.pr 16 [(ν 0), e59, e58, ο]) .ok)))))))))))))) (η (μ (.pr 15 [ο, (ν 1), (ν 8)]) (β (χ (ν 8) ο) q54 (α (γ e58 e6) (β (.bin .lt (κ 64) e58) q50 (α (γ ο e58) (α (.pr 22 [e60, e58]) (α (.pr 16 [(ν 0), e60, e58, ο]) .ok))))))))))) (α (γ (ν 5) e34) (η (μ (.same (ν 7) (fn2 9 e61 (κ (-18)))) (β (fn2 9 e61 (κ (-18))) (α (γ (sln e61) (κ 5000)) (η (η (μ (γ (sln (ν 8)) (κ 10000)) (β (χ e53 ο) q54 (α p55 (η (μ p56 (β e57 q54 (α (γ e58 e6) (α (ρ e62) (α (γ ο e62) (α (γ e62 e34) (α (γ e34 e34) (α (γ ο e58) (α (γ (π e58 (sln e63)) e0) (α (.pr 22 [e59, e58]) (α (.pr 37 [(ν 0), e63, (ν 6), e59, e58]) q64)))))))))))))))))) (α (γ (sln e61) e1) (η (μ (.pr 15 [ο, e61, (ν 8)]) (β (χ (ν 8) ο) q54 (α (γ e58 e6) (α (ρ e62) (α (γ ο e62) (α (γ e62 e34) (α (γ e34 e34) (α (γ ο e58) (α (γ (π e58 (sln e63)) e0) (α (.pr 22 [e65, e58]) (α (.pr 37 [(ν 0), e63, (ν 6), e65, e58]) q64))))))))))))))))))))))))))))))))))))))
def qz3 : Tree := (μ (.tt e10) (μ (.tt e23) (μ (γ (π (ν 1) (ν 2)) (ν 4)) (μ (.pr 22 [(ν 0), (ν 4)]) (β e38 q67 (α p68 (α (ω (ν 1) (ν 4)) (β (ξ (ν 0) (ν 1) 0) q67 (α p69 (α p70 (α (γ ο e18) (α (γ ο e71) (α (γ (π e18 e71) (ν 4)) (α (γ (sln (ξ (ν 0) (ν 1) 1)) e1) (α (.pr 33 [(ν 0), (ν 1), (ν 2), (ν 3), (ξ (ν 0) (ν 1) 1), e18, e71, (ν 3)]) .ok)))))))))))))))
def qz0 : Tree := (μ (.tt e10) (μ (.tt e23) (μ (γ (π (ν 1) (ν 2)) (ν 4)) (μ (.pr 22 [(ν 0), (ν 4)]) (η (η (η (η (μ p72 (μ p73 (μ (γ (π (ν 6) (ν 7)) (ν 4)) (μ p74 (μ (.pr 33 [(ν 0), (ν 1), (ν 2), (ν 3), (ν 5), (ν 6), (ν 7), (ν 8)]) (η (η (μ (ρ (ν 9)) (μ (.pr 10 [(ν 5), (ν 9), (ν 10)]) (β (ν 8) (α (.pr 38 [(ν 0), (ν 1), (ν 2), (ν 3), (ν 9), (ν 6), (ν 7), (κ 1)]) .ok) (α (.pr 38 [(ν 0), (ν 1), (ν 2), (ν 3), (ν 9), (ν 6), (ν 7), (χ e57 ο)]) .ok)))))))))))))))))))
def qz9 : Tree := (μ (.tt e23) (μ p3 (μ (γ (π (ν 2) (ν 3)) (ν 1)) (μ (γ (ν 3) (κ 1000)) (α (.pr 83 [(ν 0), (ν 2), ο]) (η (μ p51 (μ (γ (ν 4) (ν 3)) (μ (.pr 83 [(ν 0), (ν 2), (ν 4)]) (β (.bin .lt (ν 4) (ν 3)) (α (γ ο (π (ν 2) (ν 4))) (α (ω (π (ν 2) (ν 4)) (ν 1)) (β (χ (χ e75 ο) ο) (α (.pr 81 [(ν 0), (ν 2), (ν 3), (.bin .le ο (ν 4))]) .ok) (α (ρ e58) (α (γ ο e58) (α (γ e58 (ν 3)) (α (.pr 83 [(ν 0), (ν 2), e58]) q76))))))) (α (.pr 81 [(ν 0), (ν 2), (ν 3), ο]) .ok)))))))))))
def qz8 : Tree := (μ (.tt e23) (μ p3 (μ (γ (π (ν 2) (ν 3)) (ν 1)) (μ (γ (ν 3) (κ 1000)) (α (.pr 84 [(ν 0), (ν 2), ο]) (η (μ p51 (μ (γ (ν 4) (ν 3)) (μ (.pr 84 [(ν 0), (ν 2), (ν 4)]) (β (.bin .lt (ν 4) (ν 3)) (α (γ ο (π (ν 2) (ν 4))) (α (ω (π (ν 2) (ν 4)) (ν 1)) (β (.bin .lt e75 e77) q78 (β (.bin .lt e79 e75) q78 (α (ρ e58) (α (γ ο e58) (α (γ e58 (ν 3)) (α (.pr 84 [(ν 0), (ν 2), e58]) q76)))))))) (α (.pr 82 [(ν 0), (ν 2), (ν 3), ο]) .ok)))))))))))
def SF : Tree := (μ (ρ (ν 0)) (μ p36 (μ p81 (μ (ρ (ν 3)) (μ (ρ (ν 4)) (μ (ρ (ν 5)) (μ (ρ (ν 6)) (μ (ρ (ν 7)) (β (.bin .lt (ν 0) (κ 1)) q82 (β (.bin .le (κ 14) (ν 0)) q82 (β (.bin .lt (ν 6) ο) q82 (β (.bin .lt (κ 2) (ν 6)) q82 (β e83 (β (χ e84 ο) q82 qkg) qkg)))))))))))))
def qzC : Tree := (μ (ρ (ν 0)) (μ p36 (μ p81 (μ (ρ (ν 3)) (μ (ρ (ν 4)) (μ (ρ (ν 5)) (μ (ρ (ν 6)) (μ (ρ (ν 7)) (μ VB (α (.tt e85) (α (ω (ν 0) (κ 14)) (β e41 (β e91 (α (γ ο e94) (α p95 (β e115 (η (μ CO (β e118 (η (μ CU (β e121 (η (μ CS (β e101 (η (μ gV (α (.pr 30 [e140, (κ 8), (κ (-17))]) (η (μ (.same (ν 12) e141) (α (.pr 32 [(ν 0), (ν 1), (ν 2), (ν 3), (ν 4), (ν 5), (ν 6), (ν 7), e141]) (α (γ (sln e141) (κ 200)) .ok))))))) (β e102 (η (μ gV (α (.pr 30 [e143, (κ 8), (κ (-17))]) (η (μ (.same (ν 12) e144) (α (.pr 32 [(ν 0), (ν 1), (ν 2), (ν 3), (ν 4), (ν 5), (ν 6), (ν 7), e144]) (α (γ (sln e144) (κ 200)) .ok))))))) (α (.pr 30 [e139, (κ 6), (κ (-17))]) (η (μ (.same (ν 11) e145) (α (.pr 32 [(ν 0), (ν 1), (ν 2), (ν 3), (ν 4), (ν 5), (ν 6), (ν 7), e145]) (α (γ (sln e145) (κ 200)) .ok))))))))) (β e101 (η (μ gX (α (.pr 30 [e147, (κ 7), (κ (-17))]) (η (μ (.same (ν 11) e148) (α (.pr 32 [(ν 0), (ν 1), (ν 2), (ν 3), (ν 4), (ν 5), (ν 6), (ν 7), e148]) (α (γ (sln e148) (κ 200)) .ok))))))) (β e102 (η (μ gX (α (.pr 30 [e149, (κ 7), (κ (-17))]) (η (μ (.same (ν 11) e150) (α (.pr 32 [(ν 0), (ν 1), (ν 2), (ν 3), (ν 4), (ν 5), (ν 6), (ν 7), e150]) (α (γ (sln e150) (κ 200)) .ok))))))) (α (.pr 30 [e138, (κ 5), (κ (-17))]) (η (μ (.same (ν 10) e151) (α (.pr 32 [(ν 0), (ν 1), (ν 2), (ν 3), (ν 4), (ν 5), (ν 6), (ν 7), e151]) (α (γ (sln e151) (κ 200)) .ok)))))))))) (β e101 (η (μ mY (α (.pr 30 [e153, (κ 6), (κ (-17))]) (η (μ (.same (ν 10) e154) (α (.pr 32 [(ν 0), (ν 1), (ν 2), (ν 3), (ν 4), (ν 5), (ν 6), (ν 7), e154]) (α (γ (sln e154) (κ 200)) .ok))))))) (β e102 (η (μ mY (α (.pr 30 [e155, (κ 6), (κ (-17))]) (η (μ (.same (ν 10) e156) (α (.pr 32 [(ν 0), (ν 1), (ν 2), (ν 3), (ν 4), (ν 5), (ν 6), (ν 7), e156]) (α (γ (sln e156) (κ 200)) .ok))))))) (α (.pr 30 [e137, (κ 4), (κ (-17))]) (η (μ (.same (ν 9) e157) (α (.pr 32 [(ν 0), (ν 1), (ν 2), (ν 3), (ν 4), (ν 5), (ν 6), (ν 7), e157]) (α (γ (sln e157) (κ 200)) .ok)))))))))) (β e101 (η (μ YT (α (.pr 30 [e159, (κ 5), (κ (-17))]) (η (μ (.same (ν 9) e160) (α (.pr 32 [(ν 0), (ν 1), (ν 2), (ν 3), (ν 4), (ν 5), (ν 6), (ν 7), e160]) (α (γ (sln e160) (κ 200)) .ok))))))) (β e102 (η (μ YT (α (.pr 30 [e161, (κ 5), (κ (-17))]) (η (μ (.same (ν 9) e162) (α (.pr 32 [(ν 0), (ν 1), (ν 2), (ν 3), (ν 4), (ν 5), (ν 6), (ν 7), e162]) (α (γ (sln e162) (κ 200)) .ok))))))) (α (.pr 30 [e136, (κ 3), (κ (-17))]) (η (μ (.same (ν 8) e163) (α (.pr 32 [(ν 0), (ν 1), (ν 2), (ν 3), (ν 4), (ν 5), (ν 6), (ν 7), e163]) (α (γ (sln e163) (κ 200)) .ok)))))))))) (α (γ ο e94) (α p95 (β e115 (η (μ CO (β e118 (η (μ CU (β e121 (η (μ CS (β e101 (η (μ gV (α (.pr 30 [e167, (κ 7), (κ (-17))]) (η (μ (.same (ν 12) e168) (α (.pr 32 [(ν 0), (ν 1), (ν 2), (ν 3), (ν 4), (ν 5), (ν 6), (ν 7), e168]) (α (γ (sln e168) (κ 200)) .ok))))))) (β e102 (η (μ gV (α (.pr 30 [e169, (κ 7), (κ (-17))]) (η (μ (.same (ν 12) e170) (α (.pr 32 [(ν 0), (ν 1), (ν 2), (ν 3), (ν 4), (ν 5), (ν 6), (ν 7), e170]) (α (γ (sln e170) (κ 200)) .ok))))))) (α (.pr 30 [e166, (κ 5), (κ (-17))]) (η (μ (.same (ν 11) e171) (α (.pr 32 [(ν 0), (ν 1), (ν 2), (ν 3), (ν 4), (ν 5), (ν 6), (ν 7), e171]) (α (γ (sln e171) (κ 200)) .ok))))))))) (β e101 (η (μ gX (α (.pr 30 [e172, (κ 6), (κ (-17))]) (η (μ (.same (ν 11) e173) (α (.pr 32 [(ν 0), (ν 1), (ν 2), (ν 3), (ν 4), (ν 5), (ν 6), (ν 7), e173]) (α (γ (sln e173) (κ 200)) .ok))))))) (β e102 (η (μ gX (α (.pr 30 [e174, (κ 6), (κ (-17))]) (η (μ (.same (ν 11) e175) (α (.pr 32 [(ν 0), (ν 1), (ν 2), (ν 3), (ν 4), (ν 5), (ν 6), (ν 7), e175]) (α (γ (sln e175) (κ 200)) .ok))))))) (α (.pr 30 [e165, (κ 4), (κ (-17))]) (η (μ (.same (ν 10) e176) (α (.pr 32 [(ν 0), (ν 1), (ν 2), (ν 3), (ν 4), (ν 5), (ν 6), (ν 7), e176]) (α (γ (sln e176) (κ 200)) .ok)))))))))) (β e101 (η (μ mY (α (.pr 30 [e177, (κ 5), (κ (-17))]) (η (μ (.same (ν 10) e178) (α (.pr 32 [(ν 0), (ν 1), (ν 2), (ν 3), (ν 4), (ν 5), (ν 6), (ν 7), e178]) (α (γ (sln e178) (κ 200)) .ok))))))) (β e102 (η (μ mY (α (.pr 30 [e179, (κ 5), (κ (-17))]) (η (μ (.same (ν 10) e180) (α (.pr 32 [(ν 0), (ν 1), (ν 2), (ν 3), (ν 4), (ν 5), (ν 6), (ν 7), e180]) (α (γ (sln e180) (κ 200)) .ok))))))) (α (.pr 30 [e164, (κ 3), (κ (-17))]) (η (μ (.same (ν 9) e181) (α (.pr 32 [(ν 0), (ν 1), (ν 2), (ν 3), (ν 4), (ν 5), (ν 6), (ν 7), e181]) (α (γ (sln e181) (κ 200)) .ok)))))))))) (β e101 (η (μ YT (α (.pr 30 [e182, (κ 4), (κ (-17))]) (η (μ (.same (ν 9) e183) (α (.pr 32 [(ν 0), (ν 1), (ν 2), (ν 3), (ν 4), (ν 5), (ν 6), (ν 7), e183]) (α (γ (sln e183) (κ 200)) .ok))))))) (β e102 (η (μ YT (α (.pr 30 [e184, (κ 4), (κ (-17))]) (η (μ (.same (ν 9) e185) (α (.pr 32 [(ν 0), (ν 1), (ν 2), (ν 3), (ν 4), (ν 5), (ν 6), (ν 7), e185]) (α (γ (sln e185) (κ 200)) .ok))))))) (α (.pr 30 [e135, (κ 2), (κ (-17))]) (η (μ (.same (ν 8) e186) (α (.pr 32 [(ν 0), (ν 1), (ν 2), (ν 3), (ν 4), (ν 5), (ν 6), (ν 7), e186]) (α (γ (sln e186) (κ 200)) .ok))))))))))) (β e91 (α (γ ο e94) (α p95 (β e115 (η (μ CO (β e118 (η (μ CU (β e121 (η (μ CS (β e101 (η (μ gV (α (.pr 30 [e191, (κ 7), (κ (-17))]) (η (μ (.same (ν 12) e192) (α (.pr 32 [(ν 0), (ν 1), (ν 2), (ν 3), (ν 4), (ν 5), (ν 6), (ν 7), e192]) (α (γ (sln e192) (κ 200)) .ok))))))) (β e102 (η (μ gV (α (.pr 30 [e193, (κ 7), (κ (-17))]) (η (μ (.same (ν 12) e194) (α (.pr 32 [(ν 0), (ν 1), (ν 2), (ν 3), (ν 4), (ν 5), (ν 6), (ν 7), e194]) (α (γ (sln e194) (κ 200)) .ok))))))) (α (.pr 30 [e190, (κ 5), (κ (-17))]) (η (μ (.same (ν 11) e195) (α (.pr 32 [(ν 0), (ν 1), (ν 2), (ν 3), (ν 4), (ν 5), (ν 6), (ν 7), e195]) (α (γ (sln e195) (κ 200)) .ok))))))))) (β e101 (η (μ gX (α (.pr 30 [e196, (κ 6), (κ (-17))]) (η (μ (.same (ν 11) e197) (α (.pr 32 [(ν 0), (ν 1), (ν 2), (ν 3), (ν 4), (ν 5), (ν 6), (ν 7), e197]) (α (γ (sln e197) (κ 200)) .ok))))))) (β e102 (η (μ gX (α (.pr 30 [e198, (κ 6), (κ (-17))]) (η (μ (.same (ν 11) e199) (α (.pr 32 [(ν 0), (ν 1), (ν 2), (ν 3), (ν 4), (ν 5), (ν 6), (ν 7), e199]) (α (γ (sln e199) (κ 200)) .ok))))))) (α (.pr 30 [e189, (κ 4), (κ (-17))]) (η (μ (.same (ν 10) e200) (α (.pr 32 [(ν 0), (ν 1), (ν 2), (ν 3), (ν 4), (ν 5), (ν 6), (ν 7), e200]) (α (γ (sln e200) (κ 200)) .ok)))))))))) (β e101 (η (μ mY (α (.pr 30 [e201, (κ 5), (κ (-17))]) (η (μ (.same (ν 10) e202) (α (.pr 32 [(ν 0), (ν 1), (ν 2), (ν 3), (ν 4), (ν 5), (ν 6), (ν 7), e202]) (α (γ (sln e202) (κ 200)) .ok))))))) (β e102 (η (μ mY (α (.pr 30 [e203, (κ 5), (κ (-17))]) (η (μ (.same (ν 10) e204) (α (.pr 32 [(ν 0), (ν 1), (ν 2), (ν 3), (ν 4), (ν 5), (ν 6), (ν 7), e204]) (α (γ (sln e204) (κ 200)) .ok))))))) (α (.pr 30 [e188, (κ 3), (κ (-17))]) (η (μ (.same (ν 9) e205) (α (.pr 32 [(ν 0), (ν 1), (ν 2), (ν 3), (ν 4), (ν 5), (ν 6), (ν 7), e205]) (α (γ (sln e205) (κ 200)) .ok)))))))))) (β e101 (η (μ YT (α (.pr 30 [e206, (κ 4), (κ (-17))]) (η (μ (.same (ν 9) e207) (α (.pr 32 [(ν 0), (ν 1), (ν 2), (ν 3), (ν 4), (ν 5), (ν 6), (ν 7), e207]) (α (γ (sln e207) (κ 200)) .ok))))))) (β e102 (η (μ YT (α (.pr 30 [e208, (κ 4), (κ (-17))]) (η (μ (.same (ν 9) e209) (α (.pr 32 [(ν 0), (ν 1), (ν 2), (ν 3), (ν 4), (ν 5), (ν 6), (ν 7), e209]) (α (γ (sln e209) (κ 200)) .ok))))))) (α (.pr 30 [e187, (κ 2), (κ (-17))]) (η (μ (.same (ν 8) e210) (α (.pr 32 [(ν 0), (ν 1), (ν 2), (ν 3), (ν 4), (ν 5), (ν 6), (ν 7), e210]) (α (γ (sln e210) (κ 200)) .ok)))))))))) (α (γ ο e94) (α p95 (β e115 (η (μ CO (β e118 (η (μ CU (β e121 (η (μ CS (β e101 (η (μ gV (α (.pr 30 [e214, (κ 6), (κ (-17))]) (η (μ (.same (ν 12) e215) (α (.pr 32 [(ν 0), (ν 1), (ν 2), (ν 3), (ν 4), (ν 5), (ν 6), (ν 7), e215]) (α (γ (sln e215) (κ 200)) .ok))))))) (β e102 (η (μ gV (α (.pr 30 [e216, (κ 6), (κ (-17))]) (η (μ (.same (ν 12) e217) (α (.pr 32 [(ν 0), (ν 1), (ν 2), (ν 3), (ν 4), (ν 5), (ν 6), (ν 7), e217]) (α (γ (sln e217) (κ 200)) .ok))))))) (α (.pr 30 [e213, (κ 4), (κ (-17))]) (η (μ (.same (ν 11) e218) (α (.pr 32 [(ν 0), (ν 1), (ν 2), (ν 3), (ν 4), (ν 5), (ν 6), (ν 7), e218]) (α (γ (sln e218) (κ 200)) .ok))))))))) (β e101 (η (μ gX (α (.pr 30 [e219, (κ 5), (κ (-17))]) (η (μ (.same (ν 11) e220) (α (.pr 32 [(ν 0), (ν 1), (ν 2), (ν 3), (ν 4), (ν 5), (ν 6), (ν 7), e220]) (α (γ (sln e220) (κ 200)) .ok))))))) (β e102 (η (μ gX (α (.pr 30 [e221, (κ 5), (κ (-17))]) (η (μ (.same (ν 11) e222) (α (.pr 32 [(ν 0), (ν 1), (ν 2), (ν 3), (ν 4), (ν 5), (ν 6), (ν 7), e222]) (α (γ (sln e222) (κ 200)) .ok))))))) (α (.pr 30 [e212, (κ 3), (κ (-17))]) (η (μ (.same (ν 10) e223) (α (.pr 32 [(ν 0), (ν 1), (ν 2), (ν 3), (ν 4), (ν 5), (ν 6), (ν 7), e223]) (α (γ (sln e223) (κ 200)) .ok)))))))))) (β e101 (η (μ mY (α (.pr 30 [e224, (κ 4), (κ (-17))]) (η (μ (.same (ν 10) e225) (α (.pr 32 [(ν 0), (ν 1), (ν 2), (ν 3), (ν 4), (ν 5), (ν 6), (ν 7), e225]) (α (γ (sln e225) (κ 200)) .ok))))))) (β e102 (η (μ mY (α (.pr 30 [e226, (κ 4), (κ (-17))]) (η (μ (.same (ν 10) e227) (α (.pr 32 [(ν 0), (ν 1), (ν 2), (ν 3), (ν 4), (ν 5), (ν 6), (ν 7), e227]) (α (γ (sln e227) (κ 200)) .ok))))))) (α (.pr 30 [e211, (κ 2), (κ (-17))]) (η (μ (.same (ν 9) e228) (α (.pr 32 [(ν 0), (ν 1), (ν 2), (ν 3), (ν 4), (ν 5), (ν 6), (ν 7), e228]) (α (γ (sln e228) (κ 200)) .ok)))))))))) (β e101 (η (μ YT (α (.pr 30 [e229, (κ 3), (κ (-17))]) (η (μ (.same (ν 9) e230) (α (.pr 32 [(ν 0), (ν 1), (ν 2), (ν 3), (ν 4), (ν 5), (ν 6), (ν 7), e230]) (α (γ (sln e230) (κ 200)) .ok))))))) (β e102 (η (μ YT (α (.pr 30 [e231, (κ 3), (κ (-17))]) (η (μ (.same (ν 9) e232) (α (.pr 32 [(ν 0), (ν 1), (ν 2), (ν 3), (ν 4), (ν 5), (ν 6), (ν 7), e232]) (α (γ (sln e232) (κ 200)) .ok))))))) (α (.pr 30 [e134, (κ 1), (κ (-17))]) (η (μ (.same (ν 8) e233) (α (.pr 32 [(ν 0), (ν 1), (ν 2), (ν 3), (ν 4), (ν 5), (ν 6), (ν 7), e233]) (α (γ (sln e233) (κ 200)) .ok)))))))))))))))))))))))
def dU : Tree := (μ (γ e0 e1) (τ (η (η (μ (.tt e23) (μ (γ (ν 2) (κ 64)) (μ (.pr 22 [(ν 1), (ν 2)]) (μ AO (β (χ e43 ο) TH (α p70 (η (η (η (η (μ aC (μ p72 (μ (γ (π (ν 5) (ν 6)) (ν 2)) (μ (γ (sln (ν 4)) e1) (μ (.pr 33 [(ν 1), ο, (ν 2), ο, (ν 4), (ν 5), (ν 6), (ν 7)]) (β (χ ο (ν 4)) qkv qkv))))))))))))))))))))
def SA : Tree := (μ (ρ (ν 0)) (μ p36 (μ p81 (μ (ρ (ν 3)) (μ (ρ (ν 4)) (μ (ρ (ν 5)) (μ (ρ (ν 6)) (μ (ρ (ν 7)) (η (μ (.pr 31 [(ν 0), (ν 1), (ν 2), (ν 3), (ν 4), (ν 5), (ν 6), (ν 7), (ν 8)]) (β e295 (α (γ (sln ο) (κ 200)) (α (.pr 54 [(ν 0), (ν 1), (ν 2), (ν 3), (ν 4), (ν 5), (ν 6), (ν 7), ο, (ν 8)]) .ok)) (α VB (η (μ (.pr 32 [(ν 0), (ν 1), (ν 2), (ν 3), (ν 4), (ν 5), (ν 6), (ν 7), (ν 9)]) (μ (γ (sln (ν 9)) (κ 200)) (α (.pr 54 [(ν 0), (ν 1), (ν 2), (ν 3), (ν 4), (ν 5), (ν 6), (ν 7), (ν 9), ο]) .ok))))))))))))))))
def SC : Tree := (μ (ρ (ν 0)) (μ (.pr 21 [(ν 0)]) (β (.bin .lt (ν 0) ο) (β (.bin .lt (κ (-10)) (ν 0)) (α (ρ (δ ο (ν 0))) (α (.pr 20 [(δ ο (ν 0))]) (η (μ (.same (ν 1) e296) (α (γ (π (κ 1) (sln e296)) e6) (α (.same (fn2 1002 (κ 23) e296) e297) .ok)))))) (α (ρ e298) (α (.pr 20 [e298]) (η (μ (.same (ν 1) (fn1 3 e298)) (α (ρ (δ ο e299)) (α (.pr 20 [(δ ο e299)]) (η (μ (.same (ν 2) e300) (α (γ (π (sln (fn1 3 e298)) (sln e300)) e6) (α (.same (fn2 1002 (fn1 3 e298) e300) e297) .ok))))))))))) (β (.bin .lt (ν 0) (κ 10)) (α (ρ (π (κ 48) (ν 0))) (α (.byt e301 (κ 1)) (α (.same (fn2 1005 e301 (κ 1)) e297) .ok))) (α (ρ e298) (α (.pr 20 [e298]) (η (μ (.same (ν 1) (fn1 3 e298)) (α (ρ e299) (α (.pr 20 [e299]) (η (μ (.same (ν 2) (fn1 3 e299)) (α (γ (π (sln (fn1 3 e298)) (sln (fn1 3 e299))) e6) (α (.same (fn2 1002 (fn1 3 e298) (fn1 3 e299)) e297) .ok))))))))))))))
def BP : Tree := (μ (γ e0 e1) (β (.bin .lt ο e0) (β (χ e31 (κ 45)) (α (γ (κ 1) e0) (η (μ (γ (κ 1) (ν 1)) (μ p11 (β e12 (α (.tt e10) (β e16 (β e17 JB (α (ρ e18) (α (γ (κ 1) e18) (α p19 q20)))) JB)) (β (χ e0 (κ 1)) JB (α (ω (κ 1) e0) (β (χ (fn2 1004 (ν 0) (κ 1)) (κ 48)) (β (.bin .lt (κ 2) e0) JB TF) TF)))))))) (α (γ ο e0) (η (μ (.tt e10) (μ p11 (β e12 qkx (β (χ e0 ο) JB qky))))))) (α (γ ο e0) (η (μ (.tt e10) (μ p11 (β e12 qkx (β (χ e0 ο) JB (α (ω ο e0) qky)))))))))
def SS : Tree := (μ (γ e0 e1) (η (μ (.pr 11 [(ν 0), (ν 1)]) (β (χ (ν 1) ο) q4 (β (.bin .lt (κ 20) e0) q8 (α (γ ο e0) (α (.same ο (fn1 12 (ν 0))) (η (η (μ (.tt e23) (μ p24 (μ (.same (ν 3) e306) (β e25 (β (.bin .le (κ 48) e26) (β (.bin .le e26 (κ 57)) (α (ω ο e0) (β (χ e31 (κ 45)) (α (ρ (δ ο e307)) (α (γ ο e308) (α (γ e308 e0) (α (.same (.wrap .i64 (π e309 (δ ο e307))) e310) Aw)))) (α (γ ο e308) (α (γ e308 e0) (α (.same (.wrap .i64 (π e309 e307)) e310) Aw))))) qkw) qkw) (α (ρ e306) (η (μ (.same (ν 4) (fn1 3 e306)) (β (.bin .ne (fn1 3 e306) (ν 0)) q8 (β (.bin .lt e306 (κ (-9223372036854775808))) q8 (β (.bin .lt (κ 9223372036854775807) e306) q8 (α (.pr 10 [(ν 0), e306, ο]) .ok))))))))))))))))))))
def qz5 : Tree := (μ (γ e0 e1) (μ (.tt e10) (μ (.tt e12) (β (χ e13 (κ 34)) (α (ρ e18) (α (γ (ν 1) e18) (α p19 (α (.pr 13 [(ν 0), (ν 1), e18]) (η (μ (γ (ν 1) (ν 2)) (μ p24 (μ (.pr 13 [(ν 0), (ν 1), (ν 2)]) (β e25 (α (.tt e23) (β (χ e26 (κ 34)) (α (ρ e28) (β (χ e28 e0) qkk (α (γ ο e28) (α (ω e28 e0) (β (χ (χ (fn2 1004 (ν 0) e28) (κ 34)) ο) qkk (α (ρ e314) (α (γ (ν 1) e314) (α (γ e314 e0) (α (.pr 13 [(ν 0), (ν 1), e314]) (α (γ ο (δ e0 e314)) (α (ω (δ e0 e314) (δ e0 (ν 2))) .ok))))))))))) qkj)) (α p11 qkz)))))))))) (α (γ (ν 1) (ν 1)) (α p11 (α (.pr 13 [(ν 0), (ν 1), (ν 1)]) (η (μ (γ (ν 1) (ν 2)) (μ p24 (μ (.pr 13 [(ν 0), (ν 1), (ν 2)]) (β e25 (α (.tt e23) (β (χ e26 (κ 32)) (α (.pr 12 [(ν 0), (ν 1), (ν 2)]) .ok) qkj)) qkz))))))))))))
def SV : Tree := (μ (γ e0 e1) (α (γ ο e0) (α (.pr 42 [(ν 0), (κ 32), ο]) (η (μ (.tt e10) (μ p11 (μ (.pr 42 [(ν 0), (κ 32), (ν 1)]) (β e12 (β (.bin .lt e13 (κ 32)) (α (.pr 14 [(ν 0), ο]) .ok) (β (.bin .lt (κ 126) e13) (α (.pr 14 [(ν 0), ο]) .ok) (α (ρ e18) (α (γ ο e18) (α p19 (α (.pr 42 [(ν 0), (κ 32), e18]) q20)))))) (α (.pr 14 [(ν 0), (.bin .le e0 (κ 200))]) .ok)))))))))
def qzU : Tree := (μ (γ e0 e1) (β (.bin .lt e0 (κ 2)) Dc (α (ω ο e0) (β (χ (χ e31 (κ 34)) ο) Dc (α (ρ e32) (α (γ ο e32) (α (ω e32 e0) (β e33 Dc (α (γ (κ 1) e0) (α (γ (sln ο) (κ 1)) (η (η (μ (γ (κ 1) (ν 1)) (μ p11 (μ (γ e80 (ν 1)) (β (.bin .lt (ν 1) e32) (α (ρ e18) (α (.tt e10) (α (γ (ν 1) e18) (α p19 (α (γ (π e80 (sln (.fn 1003 (ν 0) (ν 1) e18 ο))) e6) (α (.tt e12) (β (χ e13 (κ 34)) (β (χ e18 e32) Dc (α (γ ο e18) (α (ω e18 e0) (β (χ (χ (fn2 1004 (ν 0) e18) (κ 34)) ο) Dc (α (ρ e318) (α (γ (κ 1) e318) (α (γ e318 e0) (α (γ e319 e318) (α (γ ο (δ e0 e318)) (α (ω (δ e0 e318) (δ e0 (ν 1))) .ok)))))))))) (α (γ (κ 1) e18) (α (γ e319 e18) q20))))))))) (α p81 (η (μ (.pr 14 [(ν 2), (ν 3)]) (β e43 Dc .ok))))))))))))))))))))
def BS : Tree := (μ p36 (β (ν 0) (η (μ (.pr 14 [(ν 1), (ν 2)]) q39)) (β (χ e34 ο) q40 (α (γ ο e34) (α (.pr 74 [(ν 1), ο]) (η (μ (.tt e23) (μ (γ (ν 2) e34) (μ (.pr 74 [(ν 1), (ν 2)]) (β (.bin .lt (ν 2) e34) (β (χ (fn2 1004 (ν 1) (ν 2)) (κ 32)) q40 (β (χ (fn2 1004 (ν 1) (ν 2)) (κ 34)) q40 (α (ρ e28) (α (γ ο e28) (α (γ e28 e34) (α (.pr 74 [(ν 1), e28]) (α (γ ο (δ e34 e28)) (α (ω (δ e34 e28) (δ e34 (ν 2))) .ok)))))))) (η (μ (.pr 14 [(ν 1), (ν 3)]) (α (.pr 15 [(ν 0), (ν 1), (ν 3)]) .ok)))))))))))))
def SN : Tree := (μ (γ e0 e1) (β (.bin .lt (κ 4096) e0) (α p49 q50) (α (γ ο e44) (α p49 (α (.pr 17 [(ν 0), ο, .zt, ο]) (η (τ (η (μ (.tt e10) (μ (γ (ν 1) e44) (μ p3 (μ (γ (ν 3) (ν 1)) (μ (.pr 22 [(ν 2), (ν 3)]) (μ (.pr 17 [(ν 0), (ν 1), (ν 2), (ν 3)]) (β e12 (η (μ (γ (ν 1) (ν 4)) (μ (γ (ν 4) e0) (μ (.pr 12 [(ν 0), (ν 1), (ν 4)]) (β (χ e13 (κ 34)) (α (γ (sln e320) e1) (η (η (μ p74 (β (χ e83 ο) q54 (η (μ (.pr 15 [(κ 1), (ν 5), (ν 7)]) (β e84 q54 (β (.bin .lt (ν 4) e0) (α p51 (β e321 q54 (α (ρ e58) (β (χ e58 e0) q54 (α (γ e5 e6) qj9))))) (α (γ e5 e6) (α (ρ e58) qj9))))))))))) (α (γ (sln e320) e1) (η (μ (.pr 15 [ο, e320, (ν 5)]) (β (χ (ν 5) ο) q54 (β (.bin .lt (ν 4) e0) (α p51 (β e321 q54 (α (ρ e58) (β (χ e58 e0) q54 (α (γ e5 e6) qj8))))) (α (γ e5 e6) (α (ρ e58) qj8)))))))))))) (β (.bin .lt (κ 64) (ν 3)) q50 (α (.pr 16 [(ν 0), (ν 2), (ν 3), ο]) .ok)))))))))))))))))
def BL : Tree := (μ (γ e0 e1) (β (.bin .lt e0 (κ 1)) q15 (β (.bin .lt (κ 16) e0) q15 (α (ω ο e0) (β (.bin .le (κ 97) e31) (β (.bin .le e31 (κ 122)) qj6 qj5) qj5)))))
def qzI : Tree := (α (.pr 80 [(υ (υ (υ (υ (υ (υ (υ (υ (υ (υ (υ (υ (υ (υ (υ (υ (υ (υ (υ (υ (υ (υ (υ (υ (υ (υ (υ (υ (υ (υ (υ (υ (υ (υ (υ (υ (υ (υ (υ (υ (υ (υ (υ (υ (υ (υ .zt (κ 1) 0 e126) (κ 1) 1 (κ (-56))) (κ 1) 2 (κ 23)) (κ 1) 3 (κ 3)) (κ 2) 0 e127) (κ 2) 1 (κ 56)) (κ 2) 2 (κ 23)) (κ 3) 0 (κ 215691474609)) (κ 3) 1 (κ 56)) (κ 3) 2 (κ (-12728))) (κ 3) 3 (κ 2)) (κ 4) 0 (κ 909750583)) (κ 4) 1 (κ 56)) (κ 4) 2 (κ (-14136))) (κ 5) 0 e128) (κ 5) 1 (κ 56)) (κ 5) 2 (κ 14136)) (κ 6) 0 e129) (κ 6) 1 (κ 56)) (κ 6) 2 (κ 23)) (κ 7) 0 (κ (-850475063))) (κ 7) 1 (κ 56)) (κ 7) 2 (κ 12728)) (κ 7) 3 (κ 1)) (κ 8) 0 (κ 220011707066)) (κ 8) 1 (κ 56)) (κ 8) 2 (κ 12728)) (κ 8) 3 (κ 2)) (κ 9) 0 (κ (-909260091))) (κ 9) 1 (κ 23)) (κ 9) 2 (κ 23)) (κ 9) 3 (κ 1)) (κ 10) 0 e130) (κ 10) 1 (κ 23)) (κ 10) 2 (κ 23)) (κ 11) 0 e131) (κ 11) 1 (κ 23)) (κ 11) 2 (κ 23)) (κ 11) 3 (κ 1)) (κ 12) 0 e132) (κ 12) 1 (κ 23)) (κ 12) 2 (κ 23)) (κ 12) 3 (κ 3)) (κ 13) 0 (κ (-859061045))) (κ 13) 1 (κ 56)) (κ 13) 2 (κ 23))]) .ok)
def vD : Tree := (μ (ρ (ν 0)) (μ p36 (μ p81 (μ (ρ (ν 3)) (μ (ρ (ν 4)) (μ (ρ (ν 5)) (μ (ρ (ν 6)) (μ (ρ (ν 7)) (β (.bin .lt (ν 0) (κ 1)) q82 (τ (μ (.pr 80 [(ν 8)]) (β (.bin .le (κ 14) (ν 0)) q82 (β (.bin .lt (ν 6) ο) q82 (β (.bin .lt (κ 2) (ν 6)) q82 (β e83 (β (χ e84 ο) q82 qjC) qjC)))))))))))))))
def qzL : Tree := (μ (γ e0 e1) (τ (η (η (μ (.tt e23) (μ (γ (ν 2) (κ 64)) (μ (.pr 22 [(ν 1), (ν 2)]) (μ AO (α (.pr 56 [(ν 1), ο, .zt, ο]) (η (τ (η (μ p51 (μ (γ (ν 4) (ν 2)) (μ p72 (μ (.pr 56 [(ν 1), (ν 4), (ν 5), (ν 6)]) (β (.bin .lt (ν 4) (ν 2)) (β (ξ (ν 1) (ν 4) 0) (α JN (α (.pr 55 [(ν 0), .zt, ο, ο]) .ok)) (α (γ e350 e6) (α (ρ e58) (α (γ ο e58) (α (γ e58 (ν 2)) (α (γ ο e350) (α (.pr 56 [(ν 1), e58, (υ (ν 5) (ν 6) 0 (ξ (ν 1) (ν 4) 1)), e350]) Ak))))))) (α (.pr 23 [(ν 5), (ν 6)]) (α (.pr 55 [(ν 0), (ν 5), (ν 6), e43]) .ok)))))))))))))))))))
def iq : Tree := (μ (γ e0 e1) (τ (η (η (μ (.tt e23) (μ VX (μ AX (β e43 TH (β e38 TH (τ (μ (.pr 80 [(ν 4)]) (α (.pr 57 [(ν 1), (κ 1), ο]) (η (η (μ (γ (κ 1) (ν 5)) (μ (γ (ν 5) (κ 14)) (μ p72 (μ (γ (ν 6) (κ 13)) (μ (.pr 57 [(ν 1), (ν 5), (ν 6)]) (β (.bin .lt (ν 5) (κ 14)) (α aC (α p68 (β (χ (ξ (ν 4) (ν 5) 0) e354) (α (ρ e62) (α (γ (κ 1) e62) (α (γ e62 (κ 14)) (α (γ (ν 5) (κ 13)) (α (.pr 57 [(ν 1), e62, (ν 5)]) qjT))))) (α (ρ e62) (α (γ (κ 1) e62) (α (γ e62 (κ 14)) (α (.pr 57 [(ν 1), e62, (ν 6)]) qjT))))))) (β e83 iH (α (ω (ν 6) (κ 14)) (α p69 (α p70 (β (.bin .ne (ξ (ν 4) (ν 6) 1) (κ 23)) (α (ρ e358) (β e359 (α (ρ e360) (β (χ (χ e71 e360) ο) (α (ρ (π e357 (κ 4))) (β (χ (χ e71 (π e357 (κ 4))) ο) iH qjN)) (α (ρ (π e357 (κ 4))) (β (χ e71 (π e357 (κ 4))) qjN (α (ω ο e71) (α aN (α (γ (κ 1) e71) (α (γ e71 e71) (α (ω ο e408) (α P8 (α (γ (κ 1) e408) (α (γ e408 e408) (α (γ ο e409) (α (γ e409 (κ 3)) (α AY (α (γ e409 e357) (α (γ e357 e409) (η (η (η (η (η (μ p73 (μ CB (μ CG (μ (.pr 58 [(ν 1), (κ 3), (ν 7), (ν 8), (ν 9), (ν 10)]) (μ CV (μ CX (μ (ρ (ν 8)) (μ (ρ (ν 9)) (μ nV (β e414 (α (γ ο (π (κ 3) (ν 7))) (α (ω (π (κ 3) (ν 7)) (ν 2)) (α (γ (sln (ξ (ν 1) (π (κ 3) (ν 7)) 0)) e1) (η (η (μ bF (μ (.pr 10 [(ξ (ν 1) (π (κ 3) (ν 7)) 0), (ν 12), (ν 13)]) (β e415 (β e416 Aq (α (ρ e418) (α JF (α JD (α (.pr 58 [(ν 1), (κ 3), e418, (ν 8), (ν 9), (ν 12)]) JV))))) (β e422 (β e416 Aq (α (ρ e418) (α JF (α JD (α (.pr 58 [(ν 1), (κ 3), e418, (ν 8), (ν 12), (ν 10)]) JV))))) (β e84 (β e416 Aq (α (ρ e418) (α JF (α JD (α (.pr 58 [(ν 1), (κ 3), e418, (ν 12), (ν 9), (ν 10)]) JV))))) iF)))))))))) (α (ρ (ν 6)) (α bD (α YF (α (.pr 34 [(ν 0), (ν 6), e391, e393, (ν 8), (ν 9), (ν 10), ο, ο, (κ 1)]) .ok)))))))))))))))))))))))))))))))))))) (β (χ (χ e71 e358) ο) (α (ρ e365) (β (χ (χ e71 e365) ο) iH qjM)) (α (ρ e365) (β (χ e71 e365) qjM (α (ω ο e71) (α aN (α (γ (κ 1) e71) (α (γ e71 e71) (α (γ ο e408) (α (γ e408 (κ 3)) (α DJ (α (γ e408 e357) (α (γ e357 e408) (η (η (η (η (η (μ p73 (μ CB (μ CG (μ qkX (μ CV (μ CX (μ (ρ (ν 8)) (μ (ρ (ν 9)) (μ nV (β e414 (α (γ ο (π (κ 2) (ν 7))) (α (ω (π (κ 2) (ν 7)) (ν 2)) (α qkY (η (η (μ bF (μ qkW (β e415 (β e416 O7 qjH) (β e422 (β e416 O7 qjF) (β e84 (β e416 O7 qjD) iF)))))))))) (α (ρ (ν 6)) (α bD (α p66 (α (.pr 34 [(ν 0), (ν 6), e391, ο, (ν 8), (ν 9), (ν 10), ο, ο, (κ 1)]) .ok))))))))))))))))))))))))))))))))) (β e359 (α (ρ e358) (β (χ (χ e71 e358) ο) (α (ρ e365) (β (χ (χ e71 e365) ο) iH qjB)) (α (ρ e365) (β (χ e71 e365) qjB (α (ω ο e71) (α aN (α (γ (κ 1) e71) (α (γ e71 e71) (α (γ ο e408) (α (γ e408 (κ 3)) (α DJ (α (γ e408 e357) (α (γ e357 e408) (η (η (η (η (η (μ p73 (μ CB (μ CG (μ qkX (μ CV (μ CX (μ (ρ (ν 8)) (μ (ρ (ν 9)) (μ nV (β e414 (α (γ ο (π (κ 2) (ν 7))) (α (ω (π (κ 2) (ν 7)) (ν 2)) (α qkY (η (η (μ bF (μ qkW (β e415 (β e416 O4 qjH) (β e422 (β e416 O4 qjF) (β e84 (β e416 O4 qjD) iF)))))))))) (α (ρ (ν 6)) (α p66 (α bD (α (.pr 34 [(ν 0), (ν 6), ο, e391, (ν 8), (ν 9), (ν 10), ο, ο, (κ 1)]) .ok)))))))))))))))))))))))))))))))) (β (χ (χ e71 e357) ο) (α (ρ e360) (β (χ (χ e71 e360) ο) iH qjY)) (α (ρ e360) (β (χ e71 e360) qjY (α (γ ο e71) (α (γ e71 (κ 3)) (α AJ (α (γ e71 e357) (α (γ e357 e71) (η (η (η (η (η (μ p73 (μ CB (μ CG (μ (.pr 58 [(ν 1), (κ 1), (ν 7), (ν 8), (ν 9), (ν 10)]) (μ CV (μ CX (μ (ρ (ν 8)) (μ (ρ (ν 9)) (μ nV (β e414 (α (γ ο (π (κ 1) (ν 7))) (α (ω (π (κ 1) (ν 7)) (ν 2)) (α (γ (sln (ξ (ν 1) (π (κ 1) (ν 7)) 0)) e1) (η (η (μ bF (μ (.pr 10 [(ξ (ν 1) (π (κ 1) (ν 7)) 0), (ν 12), (ν 13)]) (β e415 (β e416 iH (α (ρ e418) (α JF (α JD (α (.pr 58 [(ν 1), (κ 1), e418, (ν 8), (ν 9), (ν 12)]) JV))))) (β e422 (β e416 iH (α (ρ e418) (α JF (α JD (α (.pr 58 [(ν 1), (κ 1), e418, (ν 8), (ν 12), (ν 10)]) JV))))) (β e84 (β e416 iH (α (ρ e418) (α JF (α JD (α (.pr 58 [(ν 1), (κ 1), e418, (ν 12), (ν 9), (ν 10)]) JV))))) iF)))))))))) (α (ρ (ν 6)) (α p66 (α (.pr 34 [(ν 0), (ν 6), ο, ο, (ν 8), (ν 9), (ν 10), ο, ο, (κ 1)]) .ok))))))))))))))))))))))))))))))))))))))))))))))))))))
end Go.Tt
namespace Go.Tt
open Go Go.Sx Go.Lib Go.Sf
theorem KJ : ∀ {ws : List (List UInt8)}, Bare ws → (qI ws).length ≤ 201 * ws.length
 | [], _ => by simp [qI]
 | w :: l, h => by
   have hw := (h w (by simp)).2.1
   have ih := KJ (ws := l) fun x hx => h x (by simp [hx])
   rw [zX, List.length_append]
   split <;> simp <;> omega
theorem V4 {t : Sp} (h1 : t.Norm) (h2 : t.NB) : t.line.length ≤ 1608 := by
 have := KJ (xR h1 h2)
 have := Wp t
 unfold Sp.line
 omega
theorem WU {s : Int} {T : Tb} {n e : Int} (hS : yX s T n e) {t : Sp} (h1 : t.Norm) (h2 : t.NB) (hs : qj s = t.line) : e = 0 ∧ n = (t.wd.length : Nat) ∧ gJ T t.wd n := by
 refine hS.1 t.wd (xR h1 h2) (by have := Wp t; omega) ?_ hs
 unfold qy
 rw [hs]
 have := V4 h1 h2
 omega
structure RdS (s : Int) (T : Tb) (n : Int) (W : List (List UInt8)) (lo m bad : Int) : Prop where
 good : bad = 0 → lo = (W.length : Nat) ∧ m = n - (W.length : Nat) ∧ ∀ (i : Nat) (w : List UInt8), W[i]? = some w → T i 0 = 0 ∧ T i 1 = qZ w
 comp : ∀ t : Sp, t.Norm → t.NB → qj s = t.line → bad = 0 ∧ ∃ R, t.wd = W ++ R
variable {s n lo m bad x lo' m' bad' e : Int} {T : Tb} {W : List (List UInt8)}
theorem TJ : RdS s T n [] 0 n 0 := ⟨fun _ => ⟨rfl, by simp, fun i w h => by simp at h⟩, fun t _ _ _ => ⟨rfl, t.wd, rfl⟩⟩
theorem Vq {w : List UInt8} {i : Nat} {v : List UInt8} (h : (W ++ [w])[i]? = some v) : W[i]? = some v ∨ (i = W.length ∧ v = w) := by
 rcases Nat.lt_or_ge i W.length with h1 | h1
 · rw [List.getElem?_append_left h1] at h; exact .inl h
 · rw [List.getElem?_append_right h1] at h
   have h2 : i - W.length = 0 := by
     rcases Nat.eq_zero_or_pos (i - W.length) with h3 | h3
     · exact h3
     · rw [List.getElem?_eq_none (by simp; omega)] at h; cases h
   rw [h2] at h
   simp at h
   exact .inr ⟨by omega, h.symm⟩
theorem qyN {t : Sp} {R : List (List UInt8)} {v : List UInt8} (h : t.wd = W ++ R) (hv : t.wd[W.length]? = some v) : ∃ R', R = v :: R' := by
 rw [h, List.getElem?_append_right (Nat.le_refl _), Nat.sub_self] at hv
 cases R with
 | nil => simp at hv
 | cons a R' => simp at hv; exact ⟨R', by rw [hv]⟩
theorem l6 (hS : yX s T n e) (h : RdS s T n W lo m bad) (hF : yK T lo m bad x lo' m' bad')
   (hl : ∀ t : Sp, t.Norm → t.NB → qj s = t.line → (∃ R, t.wd = W ++ R) → W.length < t.wd.length) : RdS s T n (W ++ [qj x]) lo' m' bad' := by
 refine ⟨fun hb => ?_, fun t h1 h2 hs => ?_⟩
 · rcases hF with ⟨g1, g2, g3, g4, g5, g6⟩ | ⟨_, _, _, _, g6⟩
   · obtain ⟨f1, f2, f3⟩ := h.good (by omega)
     refine ⟨by simp; omega, by simp; omega, fun i w hw => ?_⟩
     rcases Vq hw with hw | ⟨rfl, rfl⟩
     · exact f3 i w hw
     · subst f1; exact ⟨g2, by rw [zf]; exact g3.symm⟩
   · omega
 · obtain ⟨hb, R, hR⟩ := h.comp t h1 h2 hs
   obtain ⟨f1, f2, f3⟩ := h.good hb
   obtain ⟨_, hn, hr⟩ := WU hS h1 h2 hs
   have hlt := hl t h1 h2 hs ⟨R, hR⟩
   obtain ⟨r1, r2⟩ := hr W.length (by omega)
   rcases hF with ⟨g1, g2, g3, g4, g5, g6⟩ | ⟨g, _⟩
   · refine ⟨by omega, ?_⟩
     have hg := List.getElem?_eq_getElem hlt
     obtain ⟨R', rfl⟩ := qyN hR hg
     have := r2 _ hg
     rw [f1] at g3
     rw [g3, this, qm]
     exact ⟨R', by rw [List.append_assoc]; exact hR⟩
   · exact absurd ⟨by omega, by rw [f1]; exact r1⟩ g
theorem TQ (hS : yX s T n e) (h : RdS s T n W lo m bad) (hN : dF T lo m bad x lo' m' bad')
   (hl : ∀ t : Sp, t.Norm → t.NB → qj s = t.line → (∃ R, t.wd = W ++ R) → ∃ v, I64 v ∧ t.wd[W.length]? = some (itoa v)) : RdS s T n (W ++ [itoa x]) lo' m' bad' := by
 obtain ⟨y, b, e', hF, hI, rfl⟩ := hN
 have h2 := l6 hS h hF fun t h1 h2 h3 h4 => by
   obtain ⟨v, _, hv⟩ := hl t h1 h2 h3 h4
   exact (List.getElem?_eq_some_iff.1 hv).1
 refine ⟨fun hb => ?_, fun t h3 h4 hs => ?_⟩
 · have hb0 : b = 0 ∧ e' = 0 := by
     by_cases hh : b ≠ 0 ∨ e' ≠ 0
     · rw [if_pos hh] at hb; cases hb
     · omega
   obtain ⟨f1, f2, f3⟩ := h2.good hb0.1
   have : qj y = itoa x := by
     rcases hI with ⟨_, _, h⟩ | ⟨h, _⟩
     · exact h
     · exact absurd hb0.2 h
   rw [this] at f1 f2 f3
   exact ⟨f1, f2, f3⟩
 · obtain ⟨hb, R, hR⟩ := h2.comp t h3 h4 hs
   obtain ⟨_, R0, hR0⟩ := h.comp t h3 h4 hs
   obtain ⟨v, hv, hg⟩ := hl t h3 h4 hs ⟨R0, hR0⟩
   have hy : qj y = itoa v := by
     rw [hR] at hg
     rw [List.append_assoc, List.getElem?_append_right (Nat.le_refl _), Nat.sub_self] at hg
     simpa using hg
   rcases hI with ⟨he, hx, h⟩ | ⟨_, h⟩
   · have : x = v := jP hx hv (by rw [← h, hy])
     subst this
     exact ⟨by rw [if_neg (by omega)], R, by rw [hR, hy]⟩
   · exact absurd hy (h v hv)
def base (k : Nat) : Nat := 1 + (if kar k = 0 then 0 else 1) + (if knm k = 0 then 0 else 1)
theorem Hr (t : Sp) : t.wd.head? = some (kw.getD t.k []) := rfl
theorem Y8 {t : Sp} (h1 : t.Norm) {k : Nat} (hk : 1 ≤ k ∧ k ≤ 13) {R : List (List UInt8)} (h : t.wd = W ++ R) (hW : W.head? = some (kw.getD k [])) : t.k = k := by
 have h2 := Hr t
 rw [h, List.head?_append, hW] at h2
 have h3 : kw.getD k [] = kw.getD t.k [] := Option.some.inj h2
 exact (Fg (by omega) (by have := h1.k; omega) h3).symm
theorem qzK {t : Sp} (h : t.Norm) {i : Nat} (hi : i < qW t.k) : ∃ v, I64 v ∧ t.wd[base t.k + i]? = some (itoa v) := by
 obtain ⟨k, a, m, x, y, z, w, n⟩ := t
 obtain ⟨h1, _, _, h4, h5, h6, _, _⟩ := h
 have h1 : 1 ≤ k ∧ k ≤ 13 := h1
 have hi : i < qW k := hi
 have h4 : I64 x ∧ _ := h4
 have h5 : I64 y ∧ _ := h5
 have h6 : I64 z ∧ _ := h6
 have hk : k = 1 ∨ k = 3 ∨ k = 7 ∨ k = 8 ∨ k = 9 ∨ k = 11 ∨ k = 12 := by
   unfold qW at hi
   split at hi <;> omega
 rcases hk with rfl | rfl | rfl | rfl | rfl | rfl | rfl <;> simp only [qW] at hi <;> simp only [Sp.wd, base, kar, knm, qW]
 all_goals
   rcases i with _ | _ | _ | i
   · exact ⟨x, h4.1, rfl⟩
   · first | (exact ⟨y, h5.1, rfl⟩) | omega
   · first | (exact ⟨z, h6.1, rfl⟩) | omega
   · omega
theorem IL (t : Sp) (h : t.Norm) : base t.k + qW t.k ≤ t.wd.length := by
 obtain ⟨k, a, m, x, y, z, w, n⟩ := t
 have h1 := h.k
 have h1 : 1 ≤ k ∧ k ≤ 13 := h1
 obtain ⟨j, rfl⟩ : ∃ j : Fin 14, k = j.val := ⟨⟨k, by omega⟩, rfl⟩
 unfold Sp.wd base
 simp only [List.length_cons, List.length_append, List.length_map, List.length_take]
 have : qW j.val ≤ 3 := by unfold qW; split <;> omega
 split <;> split <;> simp <;> omega
theorem jX (hS : yX s T n e) (hF : yK T 0 n 0 x lo' m' bad') : RdS s T n [qj x] lo' m' bad' := by
 have := l6 hS (TJ (s := s) (T := T) (n := n)) hF fun t _ _ _ _ => by simp [Sp.wd]
 simpa using this
theorem kW (k : Nat) (hk : 1 ≤ k ∧ k ≤ 13) (hS : yX s T n e) (h : RdS s T n W lo m bad) (hF : yK T lo m bad x lo' m' bad') (hW : W.head? = some (kw.getD k [])) (hl : W.length < base k + qW k) : RdS s T n (W ++ [qj x]) lo' m' bad' := by
 refine l6 hS h hF fun t h1 _ _ ⟨R, hR⟩ => ?_
 have := Y8 h1 hk hR hW
 have := IL t h1
 subst_vars
 omega
theorem kS (k i : Nat) (hk : 1 ≤ k ∧ k ≤ 13) (hS : yX s T n e) (h : RdS s T n W lo m bad) (hN : dF T lo m bad x lo' m' bad') (hW : W.head? = some (kw.getD k [])) (hl : W.length = base k + i) (hi : i < qW k) : RdS s T n (W ++ [itoa x]) lo' m' bad' := by
 refine TQ hS h hN fun t h1 _ _ ⟨R, hR⟩ => ?_
 have hk2 := Y8 h1 hk hR hW
 subst hk2
 rw [hl]
 exact qzK h1 hi
variable {k a b y z w u : Int}
theorem nZ (h : ∀ t : Sp, t.Norm → t.NB → qj s ≠ t.line) : jL s k a b x y z w u 0 := .inr ⟨rfl, h⟩
theorem Mf (h : RdS s T n W lo m bad) (hb : ¬ bad = 0) : jL s k a b x y z w u 0 := nZ fun t h1 h2 hs => hb (h.comp t h1 h2 hs).1
theorem Md (hS : yX s T n 0) (h : RdS s T n W lo m 0) (hm : m = 0) (hk : 0 ≤ k) (hN : (stp k a b x y z w u).Norm) (hW : W = (stp k a b x y z w u).wd) : jL s k a b x y z w u 1 := by
 obtain ⟨f1, f2, f3⟩ := h.good rfl
 have hr : ∀ r : Nat, (r : Int) < n → T r 0 = 0 := fun r hr => by
   have hl : r < W.length := by omega
   exact (f3 r _ (List.getElem?_eq_getElem hl)).1
 obtain ⟨ws, h1, h2, h3, h4, h5⟩ := hS.2 rfl hr
 have e : ws = W := by
   apply List.ext_getElem?
   intro i
   rcases Nat.lt_or_ge i ws.length with hi | hi
   · have hg := List.getElem?_eq_getElem hi
     have g1 := (h5 i (by omega)).2 _ hg
     have hj : i < W.length := by omega
     have g2 := (f3 i _ (List.getElem?_eq_getElem hj)).2
     rw [hg, List.getElem?_eq_getElem hj]
     rw [g1] at g2
     rw [show ws[i] = W[i] from by have := congrArg qj g2; rwa [qm, qm] at this]
   · rw [List.getElem?_eq_none hi, List.getElem?_eq_none (by omega)]
 subst e
 refine .inl ⟨by decide, hk, hN, ?_, by rw [h4, hW]; rfl⟩
 rw [hW] at h1
 constructor
 · intro hk
   exact h1 _ (by unfold Sp.wd; rw [if_neg hk]; simp)
 · intro hk
   exact h1 _ (by unfold Sp.wd; rw [if_neg hk]; simp)
theorem qzJ (t : Sp) (_h : t.Norm) : ∃ P : List (List UInt8), P.length = base t.k + qW t.k ∧ t.wd = P ++ (if t.w = 1 then [wIs, itoa t.n] else if t.w = 2 then [za, itoa t.n] else []) := by
 refine ⟨kw.getD t.k [] :: ((if kar t.k = 0 then [] else [t.a]) ++ (if knm t.k = 0 then [] else [t.m]) ++ (([t.x, t.y, t.z].take (qW t.k)).map itoa)), ?_, by unfold Sp.wd; simp⟩
 have : qW t.k ≤ 3 := by unfold qW; split <;> omega
 unfold base
 simp only [List.length_cons, List.length_append, List.length_map, List.length_take]
 split <;> split <;> simp <;> omega
theorem IC {t : Sp} (h : t.Norm) {R : List (List UInt8)} (hR : t.wd = W ++ R) (hW : W.length = base t.k + qW t.k) : R = if t.w = 1 then [wIs, itoa t.n] else if t.w = 2 then [za, itoa t.n] else [] := by
 obtain ⟨P, h1, h2⟩ := qzJ t h
 rw [h2] at hR
 exact (List.append_inj hR (by omega)).2.symm
theorem Tz (w u : Int) (hw : w = 1 ∨ w = 2) : (stp k a b x y z w u).wd = (stp k a b x y z 0 0).wd ++ [if w = 1 then wIs else za, itoa u] := by
 rcases hw with rfl | rfl <;> simp [stp, Sp.wd] <;> rfl
theorem Ry {w u : Int} (hw : w = 1 ∨ w = 2) (hu : I64 u) (h : (stp k a b x y z 0 0).Norm) : (stp k a b x y z w u).Norm := by
 obtain ⟨h1, h2, h3, h4, h5, h6, _, _⟩ := h
 exact ⟨h1, h2, h3, h4, h5, h6, .inr hw, hu, fun h0 => by
   have h0 : w = 0 := h0
   omega⟩
structure Tail (s : Int) (T : Tb) (n : Int) (W : List (List UInt8)) (k a b x y z : Int) : Prop where
 spl : yX s T n 0
 k13 : 1 ≤ k.toNat ∧ k.toNat ≤ 13
 k0 : 0 ≤ k
 head : W.head? = some (kw.getD k.toNat [])
 len : W.length = base k.toNat + qW k.toNat
 eq : W = (stp k a b x y z 0 0).wd
 norm : (stp k a b x y z 0 0).Norm
theorem Hl (H : Tail s T n W k a b x y z) (h : RdS s T n W lo m bad) (hm : m = 0) : (bad = 0 → jL s k a b x y z 0 0 (if m = 0 then 1 else 0)) ∧ (¬ bad = 0 → jL s k a b x y z 0 0 0) := by
 refine ⟨fun hb => ?_, fun hb => Mf h hb⟩
 subst hb
 rw [if_pos hm]
 exact Md H.spl h hm H.k0 H.norm H.eq
theorem rQ (H : Tail s T n W k a b x y z) (h : RdS s T n W lo m bad) (hm : ¬ m = 0) {t : Sp} (h1 : t.Norm) (h2 : t.NB) (hs : qj s = t.line) :
   ∃ R, t.wd = W ++ R ∧ t.k = k.toNat ∧ ((t.w = 1 ∧ R = [wIs, itoa t.n]) ∨ (t.w = 2 ∧ R = [za, itoa t.n])) := by
 obtain ⟨hb, R, hR⟩ := h.comp t h1 h2 hs
 obtain ⟨f1, f2, f3⟩ := h.good hb
 obtain ⟨_, hn, _⟩ := WU H.spl h1 h2 hs
 have hk := Y8 h1 H.k13 hR H.head
 have hw := IC h1 hR (by rw [hk]; exact H.len)
 have hlen : t.wd.length = W.length + R.length := by rw [hR, List.length_append]
 refine ⟨R, hR, hk, ?_⟩
 rcases h1.w with h0 | h0 | h0
 · rw [h0] at hw; simp at hw; subst hw; simp at hlen; omega
 · exact .inl ⟨h0, by rw [hw, if_pos h0]⟩
 · exact .inr ⟨h0, by rw [hw, if_neg (by omega), if_pos h0]⟩
theorem Qp (H : Tail s T n W k a b x y z) (h : RdS s T n W lo m bad) (hm : ¬ m = 0) {v lo2 m2 pG : Int} (hF : yK T lo m bad v lo2 m2 pG) : RdS s T n (W ++ [qj v]) lo2 m2 pG :=
 l6 H.spl h hF fun t h1 h2 hs _ => by
   obtain ⟨R, hR, _, hh⟩ := rQ H h hm h1 h2 hs
   rw [hR, List.length_append]
   rcases hh with ⟨_, rfl⟩ | ⟨_, rfl⟩ <;> simp
theorem ru (H : Tail s T n W k a b x y z) (h : RdS s T n W lo m bad) (hm : ¬ m = 0) {v lo2 m2 pG : Int} (hF : yK T lo m bad v lo2 m2 pG) {w : Int} (hw : w = 1 ∨ w = 2) (hv : v = qZ (if w = 1 then wIs else za))
   {u lo3 m3 kX : Int} (hu : I64 u) (hN : dF T lo2 m2 pG u lo3 m3 kX) : (kX = 0 → jL s k a b x y z w u (if m3 = 0 then 1 else 0)) ∧ (¬ kX = 0 → jL s k a b x y z w u 0) := by
 have h2 := Qp H h hm hF
 have h3 := TQ H.spl h2 hN fun t g1 g2 gs _ => by
   obtain ⟨R, hR, _, hh⟩ := rQ H h hm g1 g2 gs
   refine ⟨t.n, g1.n.1, ?_⟩
   rw [hR, List.length_append, List.getElem?_append_right (by simp)]
   rcases hh with ⟨_, rfl⟩ | ⟨_, rfl⟩ <;> simp
 refine ⟨fun hb => ?_, fun hb => Mf h3 hb⟩
 subst hb
 by_cases h0 : m3 = 0
 · rw [if_pos h0]
   refine Md H.spl h3 h0 H.k0 (Ry hw hu H.norm) ?_
   rw [Tz w u hw, ← H.eq, hv, qm, List.append_assoc]; rfl
 · rw [if_neg h0]
   refine nZ fun t g1 g2 gs => ?_
   obtain ⟨R, hR, _, hh⟩ := rQ H h hm g1 g2 gs
   obtain ⟨hb, R', hR'⟩ := h3.comp t g1 g2 gs
   obtain ⟨f1, f2, f3⟩ := h3.good rfl
   obtain ⟨_, hn, _⟩ := WU H.spl g1 g2 gs
   have hlen : t.wd.length = W.length + R.length := by rw [hR, List.length_append]
   have : R.length = 2 := by rcases hh with ⟨_, rfl⟩ | ⟨_, rfl⟩ <;> rfl
   simp at f2
   omega
theorem Qn (H : Tail s T n W k a b x y z) (h : RdS s T n W lo m bad) (hm : ¬ m = 0) {v lo2 m2 pG : Int} (hF : yK T lo m bad v lo2 m2 pG) (h1 : ¬ v = qZ wIs) (h2 : ¬ v = qZ za) (u : Int) : jL s k a b x y z 0 u 0 := by
 refine nZ fun t g1 g2 gs => ?_
 obtain ⟨R, hR, _, hh⟩ := rQ H h hm g1 g2 gs
 obtain ⟨_, R', hR'⟩ := (Qp H h hm hF).comp t g1 g2 gs
 rw [hR, List.append_assoc] at hR'
 have h3 := List.append_cancel_left hR'
 rcases hh with ⟨_, rfl⟩ | ⟨_, rfl⟩
 · simp at h3
   exact h1 (by rw [h3.1, zf])
 · simp at h3
   exact h2 (by rw [h3.1, zf])
theorem MW {lo3 m3 kX u : Int} (h : dF T lo m 1 u lo3 m3 kX) : ¬ kX = 0 := by
 obtain ⟨y, b, e', hF, _, rfl⟩ := h
 rcases hF with ⟨_, _, _, _, _, g⟩ | ⟨_, _, _, _, g⟩ <;> rw [if_pos (.inl (by omega))] <;> decide
theorem Nt : (14901 : Int) = qZ wIs := by kernel_rfl
theorem rz : (-250025947444 : Int) = qZ za := by kernel_rfl
theorem mH (H : Tail s T n W k a b x y z) (h : RdS s T n W lo m bad) :
   (m = 0 → (bad = 0 → qy 0 ≤ 100000 ∧ jL s k a b x y z 0 0 (if m = 0 then 1 else 0)) ∧ (¬bad = 0 → qy 0 ≤ 100000 ∧ jL s k a b x y z 0 0 0)) ∧
   (¬m = 0 → ∀ v lo2 m2 pG : Int, 0 ≤ lo2 → 0 ≤ m2 → lo2 + m2 ≤ n → qy v ≤ 100000 → yK T lo m bad v lo2 m2 pG →
     (v = 14901 → ∀ u lo3 m3 kX : Int, -9223372036854775808 ≤ u ∧ u ≤ 9223372036854775807 → 0 ≤ lo3 → 0 ≤ m3 → lo3 + m3 ≤ n → dF T lo2 m2 pG u lo3 m3 kX → (kX = 0 → qy 0 ≤ 100000 ∧ jL s k a b x y z 1 u (if m3 = 0 then 1 else 0)) ∧ (¬kX = 0 → qy 0 ≤ 100000 ∧ jL s k a b x y z 1 u 0)) ∧
     (¬v = 14901 → (v = -250025947444 → ∀ u lo3 m3 kX : Int, -9223372036854775808 ≤ u ∧ u ≤ 9223372036854775807 → 0 ≤ lo3 → 0 ≤ m3 → lo3 + m3 ≤ n → dF T lo2 m2 pG u lo3 m3 kX → (kX = 0 → qy 0 ≤ 100000 ∧ jL s k a b x y z 2 u (if m3 = 0 then 1 else 0)) ∧ (¬kX = 0 → qy 0 ≤ 100000 ∧ jL s k a b x y z 2 u 0)) ∧
       (¬v = -250025947444 → ∀ u lo3 m3 kX : Int, -9223372036854775808 ≤ u ∧ u ≤ 9223372036854775807 → 0 ≤ lo3 → 0 ≤ m3 → lo3 + m3 ≤ n → dF T lo2 m2 1 u lo3 m3 kX → (kX = 0 → qy 0 ≤ 100000 ∧ jL s k a b x y z 0 u (if m3 = 0 then 1 else 0)) ∧ (¬kX = 0 → qy 0 ≤ 100000 ∧ jL s k a b x y z 0 u 0)))) := by
 have h00 : qy 0 ≤ 100000 := by rw [vH]; omega
 refine ⟨fun hm => ?_, fun hm v lo2 m2 pG _ _ _ _ hF => ⟨fun hv u lo3 m3 kX hu _ _ _ hN => ?_, fun h1 => ⟨fun hv u lo3 m3 kX hu _ _ _ hN => ?_, fun h2 u lo3 m3 kX hu _ _ _ hN => ?_⟩⟩⟩
 · exact ⟨fun hb => ⟨h00, (Hl H h hm).1 hb⟩, fun hb => ⟨h00, (Hl H h hm).2 hb⟩⟩
 · have t := ru H h hm hF (.inl rfl) (by rw [hv]; exact Nt) hu hN
   exact ⟨fun hb => ⟨h00, t.1 hb⟩, fun hb => ⟨h00, t.2 hb⟩⟩
 · have t := ru H h hm hF (.inr rfl) (by rw [hv]; exact rz) hu hN
   exact ⟨fun hb => ⟨h00, t.1 hb⟩, fun hb => ⟨h00, t.2 hb⟩⟩
 · have t := Qn H h hm hF (fun e => h1 (by rw [e]; exact Nt.symm)) (fun e => h2 (by rw [e]; exact rz.symm)) u
   exact ⟨fun hb => absurd hb (MW hN), fun _ => ⟨h00, t⟩⟩
theorem Qr (H : Tail s T n W k a b x y z) (h : RdS s T n W lo m bad) :
   (m = 0 → (bad = 0 → jL s k a b x y z 0 0 (if m = 0 then 1 else 0)) ∧ (¬bad = 0 → jL s k a b x y z 0 0 0)) ∧
   (¬m = 0 → ∀ v lo2 m2 pG : Int, 0 ≤ lo2 → 0 ≤ m2 → lo2 + m2 ≤ n → qy v ≤ 100000 → yK T lo m bad v lo2 m2 pG →
     (v = 14901 → ∀ u lo3 m3 kX : Int, -9223372036854775808 ≤ u ∧ u ≤ 9223372036854775807 → 0 ≤ lo3 → 0 ≤ m3 → lo3 + m3 ≤ n → dF T lo2 m2 pG u lo3 m3 kX → (kX = 0 → jL s k a b x y z 1 u (if m3 = 0 then 1 else 0)) ∧ (¬kX = 0 → jL s k a b x y z 1 u 0)) ∧
     (¬v = 14901 → (v = -250025947444 → ∀ u lo3 m3 kX : Int, -9223372036854775808 ≤ u ∧ u ≤ 9223372036854775807 → 0 ≤ lo3 → 0 ≤ m3 → lo3 + m3 ≤ n → dF T lo2 m2 pG u lo3 m3 kX → (kX = 0 → jL s k a b x y z 2 u (if m3 = 0 then 1 else 0)) ∧ (¬kX = 0 → jL s k a b x y z 2 u 0)) ∧
       (¬v = -250025947444 → ∀ u lo3 m3 kX : Int, -9223372036854775808 ≤ u ∧ u ≤ 9223372036854775807 → 0 ≤ lo3 → 0 ≤ m3 → lo3 + m3 ≤ n → dF T lo2 m2 1 u lo3 m3 kX → (kX = 0 → jL s k a b x y z 0 u (if m3 = 0 then 1 else 0)) ∧ (¬kX = 0 → jL s k a b x y z 0 u 0)))) := by
 have h00 : qy 0 ≤ 100000 := by rw [vH]; omega
 refine ⟨fun hm => ?_, fun hm v lo2 m2 pG _ _ _ _ hF => ⟨fun hv u lo3 m3 kX hu _ _ _ hN => ?_, fun h1 => ⟨fun hv u lo3 m3 kX hu _ _ _ hN => ?_, fun h2 u lo3 m3 kX hu _ _ _ hN => ?_⟩⟩⟩
 · exact ⟨fun hb => (Hl H h hm).1 hb, fun hb => (Hl H h hm).2 hb⟩
 · have t := ru H h hm hF (.inl rfl) (by rw [hv]; exact Nt) hu hN
   exact ⟨fun hb => t.1 hb, fun hb => t.2 hb⟩
 · have t := ru H h hm hF (.inr rfl) (by rw [hv]; exact rz) hu hN
   exact ⟨fun hb => t.1 hb, fun hb => t.2 hb⟩
 · have t := Qn H h hm hF (fun e => h1 (by rw [e]; exact Nt.symm)) (fun e => h2 (by rw [e]; exact rz.symm)) u
   exact ⟨fun hb => absurd hb (MW hN), fun _ => t⟩
theorem kT {K : Int} (k : Nat) (hK : K.toNat = k) (hk : 1 ≤ k ∧ k ≤ 13) (ha : kar k = 0 → a = 0) (hb : knm k = 0 → b = 0) (hx : I64 x ∧ (qW k < 1 → x = 0)) (hy : I64 y ∧ (qW k < 2 → y = 0)) (hz : I64 z ∧ (qW k < 3 → z = 0)) :
   (stp K a b x y z 0 0).Norm := by
 subst hK
 exact ⟨hk, fun h => by show qj a = []; rw [ha h]; rfl, fun h => by show qj b = []; rw [hb h]; rfl, hx, hy, hz, .inl rfl, ⟨by show (-9223372036854775808 : Int) ≤ 0; decide, by show (0 : Int) ≤ 9223372036854775807; decide⟩, fun _ => rfl⟩
theorem jI : I64 0 := ⟨by decide, by decide⟩
def wT : Nat → Int
 | 1 => 56327174044082
 | 2 => -17231794176406323
 | 3 => 215691474609
 | 4 => 909750583
 | 5 => -55764601025338
 | 6 => -252115039034
 | 7 => -850475063
 | 8 => 220011707066
 | 9 => -909260091
 | 10 => -219919530809
 | 11 => -252148397367
 | 12 => -56325194363706
 | 13 => -859061045
 | _ => 0
theorem kc1 : qZ (kw.getD 1 []) = (56327174044082 : Int) := by kernel_rfl
theorem kc2 : qZ (kw.getD 2 []) = (-17231794176406323 : Int) := by kernel_rfl
theorem kc3 : qZ (kw.getD 3 []) = (215691474609 : Int) := by kernel_rfl
theorem kc4 : qZ (kw.getD 4 []) = (909750583 : Int) := by kernel_rfl
theorem kc5 : qZ (kw.getD 5 []) = (-55764601025338 : Int) := by kernel_rfl
theorem kc6 : qZ (kw.getD 6 []) = (-252115039034 : Int) := by kernel_rfl
theorem kc7 : qZ (kw.getD 7 []) = (-850475063 : Int) := by kernel_rfl
theorem kc8 : qZ (kw.getD 8 []) = (220011707066 : Int) := by kernel_rfl
theorem kc9 : qZ (kw.getD 9 []) = (-909260091 : Int) := by kernel_rfl
theorem qgP : qZ (kw.getD 10 []) = (-219919530809 : Int) := by kernel_rfl
theorem qgN : qZ (kw.getD 11 []) = (-252148397367 : Int) := by kernel_rfl
theorem qgM : qZ (kw.getD 12 []) = (-56325194363706 : Int) := by kernel_rfl
theorem qgH : qZ (kw.getD 13 []) = (-859061045 : Int) := by kernel_rfl
theorem kc {j : Nat} (h1 : 1 ≤ j) (h2 : j ≤ 13) : qZ (kw.getD j []) = wT j := by
 have : j = 1 ∨ j = 2 ∨ j = 3 ∨ j = 4 ∨ j = 5 ∨ j = 6 ∨ j = 7 ∨ j = 8 ∨ j = 9 ∨ j = 10 ∨ j = 11 ∨ j = 12 ∨ j = 13 := by omega
 rcases this with rfl | rfl | rfl | rfl | rfl | rfl | rfl | rfl | rfl | rfl | rfl | rfl | rfl
 · exact kc1
 · exact kc2
 · exact kc3
 · exact kc4
 · exact kc5
 · exact kc6
 · exact kc7
 · exact kc8
 · exact kc9
 · exact qgP
 · exact qgN
 · exact qgM
 · exact qgH
theorem Vb {v : Int} (hS : yX s T n 0) (hF : yK T 0 n 0 v lo' m' bad') (h : ∀ j : Nat, 1 ≤ j → j ≤ 13 → ¬ wT j = v) : jL s k a b x y z w u 0 := nZ fun t h1 h2 hs => by
 obtain ⟨_, R, hR⟩ := (jX hS hF).comp t h1 h2 hs
 have h3 := Hr t
 rw [hR] at h3
 have h4 : qj v = kw.getD t.k [] := Option.some.inj h3
 refine h t.k h1.k.1 h1.k.2 ?_
 rw [← kc h1.k.1 h1.k.2, ← h4, zf]
theorem qzx {v : Int} (h : (¬ wT 1 = v ∧ ¬ wT 2 = v ∧ ¬ wT 3 = v ∧ ¬ wT 4 = v ∧ ¬ wT 5 = v ∧ ¬ wT 6 = v ∧ ¬ wT 7 = v) ∧ ¬ wT 8 = v ∧ ¬ wT 9 = v ∧ ¬ wT 10 = v ∧ ¬ wT 11 = v ∧ ¬ wT 12 = v ∧ ¬ wT 13 = v) :
   ∀ j : Nat, 1 ≤ j → j ≤ 13 → ¬ wT j = v := by
 intro j h1 h2
 have : j = 1 ∨ j = 2 ∨ j = 3 ∨ j = 4 ∨ j = 5 ∨ j = 6 ∨ j = 7 ∨ j = 8 ∨ j = 9 ∨ j = 10 ∨ j = 11 ∨ j = 12 ∨ j = 13 := by omega
 obtain ⟨⟨a1, a2, a3, a4, a5, a6, a7⟩, a8, a9, a10, a11, a12, a13⟩ := h
 rcases this with rfl | rfl | rfl | rfl | rfl | rfl | rfl | rfl | rfl | rfl | rfl | rfl | rfl <;> assumption
theorem qwQ : ∀ j : Nat, 1 ≤ j → j ≤ 13 → ¬ wT j = 0 := qzx (by decide)
end Go.Tt
