/-
  What texts of programs are, in plain words: what the signs of the contracts' formulas mean. Conditions: none; nothing here speaks of a program.
-/
import Derived.Lib.Join
import Derived.Test.YtdelhnefoccnbaaGreatDoorB1
import Derived.Test.YtdelhnefoccnbaaGreatDoorA1
import Derived.Test.YtdelhnefoccnbaaGreatDoorA2
import Derived.Lib.DecodeN
import Derived.Lib.FieldsU
import Derived.KernelRfl
namespace Go.Tt
open Go Go.Sx Go.Lib Go.Sf
abbrev Tb := Int → Nat → Int
def joinS (T : Tb) (n sep : Int) : Int := senc (Lib.join ((List.range n.toNat).map fun r : Nat => sdec (T (r : Int) 0)) (sdec sep))
def splT (s sep : Int) : Tb := fun r _ => senc ((Lib.split (sdec s) (sdec sep)).getD r.toNat [])
def splN (s sep : Int) : Int := ((Lib.split (sdec s) (sdec sep)).length : Nat)
def trimS (s p : Int) : Int := senc (Lib.trimPrefix (sdec s) (sdec p))
def hpre (s p : Int) : Int := if Lib.hasPrefix (sdec s) (sdec p) = true then 1 else 0
def pintL (l : List UInt8) : Int := match parseIntB 64 l with
  | .ok v => v
  | .range => intSat 64 l
  | _ => 0
def perrL (l : List UInt8) : Int := match parseIntB 64 l with
  | .ok _ => 0
  | _ => 1
def accL (l : List UInt8) : Nat → Int
  | 0 => 0
  | i + 1 =>
    let c : Int := (((l[i]?).getD 0).toNat : Nat)
    if 48 ≤ c ∧ c ≤ 57 then
      let d := IntKind.i64.wrap (IntKind.u8.wrap (c - 48))
      IntKind.i64.wrap (IntKind.i64.wrap (10 * accL l i) + if ((((l[0]?).getD 0).toNat : Nat) : Int) = 45 then -d else d)
    else accL l i
def nameF (s : Int) : Int := if NameP (sdec s) then 1 else 0
def RowsW (T : Tb) (ws : List (List UInt8)) (n : Int) : Prop := ∀ r : Nat, (r : Int) < n → T r 0 = 0 ∧ ∀ w, ws[r]? = some w → T r 1 = senc w
def IntP (s n e : Int) : Prop := (e = 0 ∧ I64 n ∧ sdec s = itoa n) ∨ (e ≠ 0 ∧ ∀ m, I64 m → sdec s ≠ itoa m)
def EndP (s a r : Int) : Prop := sbyte s a ≠ 34 → (∀ j, a ≤ j → j < r → sbyte s j ≠ 32) ∧ (r = slen s ∨ sbyte s r = 32)
def NoB (s a i : Int) : Prop := sbyte s a ≠ 34 → ∀ j, a ≤ j → j < i → sbyte s j ≠ 32
def TextP (s b : Int) : Prop := b ≠ 0 ↔ (sdec s).length ≤ 200 ∧ ∀ c ∈ sdec s, 32 ≤ c.toNat ∧ c.toNat ≤ 126
def RightP (q s b : Int) : Prop := q = 0 → (b ≠ 0 ↔ BareW (sdec s))
def SplP (s : Int) (T : Tb) (n e : Int) : Prop :=
  (∀ ws, Bare ws → ws.length ≤ 64 → slen s ≤ 4096 → sdec s = joinW ws → e = 0 ∧ n = (ws.length : Nat) ∧ RowsW T ws n) ∧
  (e = 0 → (∀ r : Nat, (r : Int) < n → T r 0 = 0) → ∃ ws, Bare ws ∧ ws.length ≤ 64 ∧ n = (ws.length : Nat) ∧ sdec s = joinW ws ∧ RowsW T ws n)
def SplI (s a : Int) (T : Tb) (n : Int) : Prop := ∀ ws, Bare ws → sdec s = joinW ws → ∃ k : Nat, n = k ∧ k ≤ ws.length ∧ RowsW T ws n ∧ (if k < ws.length then (sdec s).drop a.toNat = joinW (ws.drop k) ∧ a < slen s else slen s ≤ a)
def SplJ (s a : Int) (T : Tb) (n : Int) : Prop := (∀ r : Nat, (r : Int) < n → T r 0 = 0) → ∃ ws, Bare ws ∧ n = (ws.length : Nat) ∧ RowsW T ws n ∧
  ((a = 0 ∧ ws = []) ∨ (0 < a ∧ a < slen s ∧ (sdec s).take a.toNat = preW ws) ∨ (a = slen s + 1 ∧ sdec s = joinW ws))
def dep (n : Int) : Nat := 2 * nDigits n.natAbs + if n < 0 then 1 else 0
def Short (T : Tb) (n sep : Int) : Prop := n ≤ 1000 ∧ slen sep ≤ 1000 ∧ ∀ r : Nat, (r : Int) < n → slen (T r 0) ≤ 1000
def FieldP (T : Tb) (lo n bad s lo' n' bad' : Int) : Prop :=
  (0 < n ∧ T lo 0 = 0 ∧ s = T lo 1 ∧ lo' = lo + 1 ∧ n' = n - 1 ∧ bad' = bad) ∨ (¬ (0 < n ∧ T lo 0 = 0) ∧ s = 0 ∧ lo' = lo ∧ n' = n ∧ bad' = 1)
def NumP (T : Tb) (lo n bad x lo' n' bad' : Int) : Prop :=
  ∃ s b e, FieldP T lo n bad s lo' n' b ∧ IntP s x e ∧ bad' = if b ≠ 0 ∨ e ≠ 0 then 1 else 0
def stp (k a m x y z w n : Int) : Sp := ⟨k.toNat, sdec a, sdec m, x, y, z, w, n⟩
def StepP (k a m x y z w n e : Int) : Prop := e = stepE k (sdec a) (sdec m) x y z w n
def LineP (k a m x y z w n s : Int) : Prop := stepE k (sdec a) (sdec m) x y z w n = 0 → s = senc (stp k a m x y z w n).line
def RawP (s k a m x y z w n b : Int) : Prop :=
  (b ≠ 0 ∧ 0 ≤ k ∧ (stp k a m x y z w n).Norm ∧ (stp k a m x y z w n).NB ∧ sdec s = (stp k a m x y z w n).line) ∨
  (b = 0 ∧ ∀ t : Sp, t.Norm → t.NB → sdec s ≠ t.line)
def IxI (s v q u : Int) : Prop := v = 0 → (∀ j, 0 ≤ j → j < q → sbyte s j < 128 ∧ sbyte s j ≠ 34) → u = 0 ∧ ∀ j, 0 ≤ j → j < q → sbyte s j ≠ 32
def IxP (s v r u : Int) : Prop := (r = -1 ∧ IxI s v (slen s) u) ∨ (0 ≤ r ∧ r < slen s ∧ sbyte s r = 32 ∧ IxI s v r u)
def PcI (s r v : Int) (T : Tb) (n : Int) : Prop :=
  (∀ ws, Bare ws → sdec s = joinW ws → ∃ k : Nat, n = k ∧ k < ws.length ∧ RowsW T ws n ∧ v = 0 ∧ sdec r = joinW (ws.drop k)) ∧
  ((∀ r : Nat, (r : Int) < n → T r 0 = 0) → v = 0 ∧ ∃ ws, Bare ws ∧ n = (ws.length : Nat) ∧ RowsW T ws n ∧ sdec s = preW ws ++ sdec r)
def hsuf (s p : Int) : Int := if Lib.hasSuffix (sdec s) (sdec p) = true then 1 else 0
def cntB (s c : Int) : Int := ((sdec s).count (UInt8.ofNat c.toNat) : Nat)
def hasB (s c : Int) : Int := if UInt8.ofNat c.toNat ∈ sdec s then 1 else 0
def PrnP (s l b : Int) : Prop := b ≠ 0 ↔ ∀ c ∈ sdec s, l ≤ (c.toNat : Nat) ∧ c.toNat ≤ 126
def PrnI (s l i : Int) : Prop := ∀ j, 0 ≤ j → j < i → l ≤ sbyte s j ∧ sbyte s j ≤ 126
def LetI (c : Int) : Prop := (97 ≤ c ∧ c ≤ 122) ∨ (65 ≤ c ∧ c ≤ 90)
def NamI (c : Int) : Prop := LetI c ∨ (48 ≤ c ∧ c ≤ 57) ∨ c = 95
def NmI (s i : Int) : Prop := ∀ j, 0 ≤ j → j < i → NamI (sbyte s j) ∧ (j = 0 → LetI (sbyte s j))
def OkP (k a m x y z w n : Int) : Prop := stepE k (sdec a) (sdec m) x y z w n = 0
def spR (T : Tb) (r : Int) : Sp := stp (T r 0) (T r 1) (T r 2) (T r 3) (T r 4) (T r 5) (T r 6) (T r 7)
def TbR (T : Tb) (n : Int) : Prop := ∀ r, 0 ≤ r → r < n → I64 (T r 0) ∧ I64 (T r 3) ∧ I64 (T r 4) ∧ I64 (T r 5) ∧ I64 (T r 6) ∧ I64 (T r 7)
def TbOk (T : Tb) (n : Int) : Prop := TbR T n ∧ ∀ r, 0 ≤ r → r < n → slen (T r 1) ≤ 100000 ∧ slen (T r 2) ≤ 100000
def Has (T : Tb) (i k a m : Int) : Prop := ∃ j, 0 ≤ j ∧ j < i ∧ T j 0 = k ∧ T j 1 = a ∧ T j 2 = m
def Made (T : Tb) (i a : Int) : Prop := ∃ j, 0 ≤ j ∧ j < i ∧ T j 0 = 1 ∧ T j 1 = a
def kof : Nat → Int
  | 3 | 7 | 8 => 3
  | 4 | 5 => 4
  | _ => 0
open Classical in
noncomputable def nameE (A N : Prop) (k e : Int) : Int :=
  if e ≠ 0 then e
  else if (kar k.toNat = 1 ∧ A) ∨ (knm k.toNat = 1 ∧ N) then 8
  else if (kar k.toNat = 2 ∧ ¬ A) ∨ (knm k.toNat = 2 ∧ ¬ N) then 4 else 0
noncomputable def aftE (T : Tb) (i k a m x y z w n : Int) : Int := nameE (Made T i a) (Has T i (kof k.toNat) a m) k (stepE k (sdec a) (sdec m) x y z w n)
noncomputable def aftR (T : Tb) (i : Int) : Int := aftE T i (T i 0) (T i 1) (T i 2) (T i 3) (T i 4) (T i 5) (T i 6) (T i 7)
def OkI (T : Tb) (i : Int) : Prop := ∀ j, 0 ≤ j → j < i → aftR T j = 0
def InM (M : Tb) (m k a b : Int) : Prop := ∃ r, 0 ≤ r ∧ r < m ∧ M r 0 = k ∧ M r 1 = a ∧ M r 2 = b
def ChkM (M : Tb) (mm k a m x y z w n e : Int) : Prop := e = nameE (InM M mm 1 a 0) (InM M mm (kof k.toNat) a m) k (stepE k (sdec a) (sdec m) x y z w n)
def MapI (T : Tb) (i : Int) (M : Tb) (mm : Int) : Prop := OkI T i ∧ (∀ a, InM M mm 1 a 0 ↔ Made T i a) ∧ ∀ k a m, k = 3 ∨ k = 4 → (InM M mm k a m ↔ Has T i k a m)
def right (L A K : Int) : Prop := (0 ≤ L ∧ L ≤ 4096) ∧ (0 ≤ A ∧ A ≤ 1000000000000) ∧ (0 ≤ K ∧ K ≤ 1024)
def ChkP (L A K : Int) (T : Tb) (n st e : Int) : Prop :=
  (500 < n ∧ st = -1 ∧ e = 3) ∨ (n ≤ 500 ∧ ¬ right L A K ∧ st = -1 ∧ e = 7) ∨
  (n ≤ 500 ∧ right L A K ∧ ((st = 0 ∧ e = 0 ∧ OkI T n) ∨ (0 ≤ st ∧ st < n ∧ e ≠ 0 ∧ e = aftR T st ∧ OkI T st)))
def AftP (T : Tb) (i k a m x y z w n e : Int) : Prop := e = aftE T i k a m x y z w n
def MadeP (T : Tb) (n a b : Int) : Prop := b ≠ 0 ↔ Made T n a
def FindP (T : Tb) (n k a m r : Int) : Prop := 0 ≤ r ↔ Has T n k a m
def LnP (k a m x y z w n s e : Int) : Prop := e = stepE k (sdec a) (sdec m) x y z w n ∧ (e = 0 → s = senc (stp k a m x y z w n).line) ∧ (e ≠ 0 → s = 0)
def RowsS (T : Tb) (ws : List (List UInt8)) (n : Int) : Prop := n = (ws.length : Nat) ∧ ∀ (r : Nat) (w : List UInt8), ws[r]? = some w → T r 0 = senc w
def WdsP (s : Int) (T : Tb) (n b : Int) : Prop :=
  (b ≠ 0 → ∃ ws, Bare ws ∧ ws.length ≤ 64 ∧ sdec s = joinW ws ∧ RowsS T ws n) ∧ (b = 0 → ∀ ws, Bare ws → ws.length ≤ 64 → slen s ≤ 4096 → sdec s ≠ joinW ws)
def WdsI (T : Tb) (i : Int) (U : Tb) (m : Int) : Prop := m = i ∧ ∀ r : Nat, (r : Int) < i → T r 0 = 0 ∧ U r 0 = T r 1
def KwI (T : Tb) (q k : Int) : Prop := (k = 0 ∧ ∀ j : Nat, 1 ≤ j → (j : Int) < q → T 0 0 ≠ senc (kw.getD j [])) ∨ (1 ≤ k ∧ k < q ∧ T 0 0 = senc (kw.getD k.toNat []))
def IntOk (s x : Int) : Prop := I64 x ∧ sdec s = itoa x
def NumsI (T : Tb) (lo i x y z : Int) : Prop := (if 0 < i then IntOk (T lo 0) x else x = 0) ∧ (if 1 < i then IntOk (T (lo + 1) 0) y else y = 0) ∧ (if 2 < i then IntOk (T (lo + 2) 0) z else z = 0)
def wMan : List UInt8 := [109, 97, 110, 97, 103, 101, 114]
def headW (L A K : Int) : List UInt8 := joinW [wMan, itoa L, itoa A, itoa K]
def HeadP (s L A K b : Int) : Prop :=
  (b ≠ 0 ∧ I64 L ∧ I64 A ∧ I64 K ∧ sdec s = headW L A K) ∨ (b = 0 ∧ ∀ L A K, I64 L → I64 A → I64 K → sdec s ≠ headW L A K)
def LineOf (s : Int) (t : Sp) : Prop := t.Norm ∧ t.NB ∧ sdec s = t.line
def PLineP (s k a m x y z w n e : Int) : Prop :=
  (∃ t : Sp, LineOf s t ∧ e = stepE t.k t.a t.m t.x t.y t.z t.w t.n ∧ (e = 0 → 0 ≤ k ∧ stp k a m x y z w n = t) ∧ (e ≠ 0 → k = 0 ∧ a = 0 ∧ m = 0 ∧ x = 0 ∧ y = 0 ∧ z = 0 ∧ w = 0 ∧ n = 0)) ∨
  ((∀ t : Sp, ¬ LineOf s t) ∧ e = 6 ∧ k = 0 ∧ a = 0 ∧ m = 0 ∧ x = 0 ∧ y = 0 ∧ z = 0 ∧ w = 0 ∧ n = 0)
def lnsW (ls : List (List UInt8)) : List UInt8 := ls.flatMap fun l => l ++ [10]
def NoNl (ls : List (List UInt8)) : Prop := ∀ l ∈ ls, (10 : UInt8) ∉ l
def LinesP (s : Int) (T : Tb) (n e : Int) : Prop :=
  (∃ ls, NoNl ls ∧ sdec s = lnsW ls ∧ ((ls.length ≤ 5000 ∧ e = 0 ∧ RowsS T ls n) ∨ (5000 < ls.length ∧ e = 3 ∧ n = 0))) ∨ ((∀ ls, NoNl ls → sdec s ≠ lnsW ls) ∧ e = 6 ∧ n = 0)
def LinesI (s p i : Int) (T : Tb) (n : Int) : Prop := ∃ ls, NoNl ls ∧ (sdec s).take p.toNat = lnsW ls ∧ RowsS T ls n ∧ ∀ j, p ≤ j → j < i → sbyte s j ≠ 10
def prgL (L A K : Int) (T : Tb) (n : Nat) : List (List UInt8) := headW L A K :: (List.range n).map fun r : Nat => (spR T r).line
def PrintP (L A K : Int) (T : Tb) (n s e : Int) : Prop := (∃ st, ChkP L A K T n st e) ∧ (e = 0 → s = senc (lnsW (prgL L A K T n.toNat))) ∧ (e ≠ 0 → s = 0)
def PrI (L A K : Int) (T : Tb) (i : Int) (U : Tb) (m : Int) : Prop := RowsS U (prgL L A K T i.toNat) m
def PrJ (L A K : Int) (T : Tb) (i s : Int) : Prop := s = senc (lnsW (prgL L A K T i.toNat))
def RowsL (T : Tb) (ls : List (List UInt8)) : Prop := ∀ (r : Nat) (l : List UInt8), ls[r]? = some l → 0 ≤ T r 0 ∧ LineOf (senc l) (spR T r)
def Zero3 (L A K n : Int) : Prop := L = 0 ∧ A = 0 ∧ K = 0 ∧ n = 0
def ParseP (s L A K : Int) (T : Tb) (n line e : Int) : Prop :=
  (∃ h ls st, NoNl (h :: ls) ∧ sdec s = lnsW (h :: ls) ∧ ls.length < 5000 ∧ ∃ L' A' K' T', I64 L' ∧ I64 A' ∧ I64 K' ∧ h = headW L' A' K' ∧ RowsL T' ls ∧ ChkP L' A' K' T' (ls.length : Nat) st e ∧
    ((e = 0 ∧ L = L' ∧ A = A' ∧ K = K' ∧ n = (ls.length : Nat) ∧ (∀ r : Nat, r < ls.length → ∀ c < 8, T r c = T' r c) ∧ line = 0) ∨ (e ≠ 0 ∧ Zero3 L A K n ∧ line = st + 2))) ∨
  (∃ h ls i, NoNl (h :: ls) ∧ sdec s = lnsW (h :: ls) ∧ ls.length < 5000 ∧ (∃ L' A' K', I64 L' ∧ I64 A' ∧ I64 K' ∧ h = headW L' A' K') ∧ (∃ T', RowsL T' (ls.take i)) ∧ (∃ l, ls[i]? = some l ∧ ∀ t, ¬ LineOf (senc l) t) ∧ e = 6 ∧ Zero3 L A K n ∧ line = i + 2) ∨
  (∃ ls, NoNl ls ∧ sdec s = lnsW ls ∧ ls.length ≤ 5000 ∧ (∀ h, ls.head? = some h → ∀ L' A' K', I64 L' → I64 A' → I64 K' → h ≠ headW L' A' K') ∧ e = 6 ∧ Zero3 L A K n ∧ line = 1) ∨
  (∃ ls, NoNl ls ∧ sdec s = lnsW ls ∧ 5000 < ls.length ∧ e = 3 ∧ Zero3 L A K n ∧ line = 0) ∨
  ((∀ ls, NoNl ls → sdec s ≠ lnsW ls) ∧ e = 6 ∧ Zero3 L A K n ∧ line = 0)
def ParI (U : Tb) (T : Tb) (i : Int) : Prop := ∀ r : Nat, (r : Int) < i → 0 ≤ T r 0 ∧ LineOf (U (r + 1) 0) (spR T r)
def SameP (L A K : Int) (T : Tb) (n L' A' K' : Int) (T' : Tb) (n' b : Int) : Prop := b ≠ 0 ↔ L = L' ∧ A = A' ∧ K = K' ∧ n = n' ∧ ∀ r : Nat, (r : Int) < n → ∀ c < 8, T r c = T' r c
def SameI (T T' : Tb) (i : Int) : Prop := ∀ r : Nat, (r : Int) < i → ∀ c < 8, T r c = T' r c
def FarP (T : Tb) (n b : Int) : Prop := b = 0 → (n ≤ 60 ∨ 500 < n) ∧ n ≤ 600 ∧ ∀ r, 0 ≤ r → r < n → slen (T r 1) ≤ 100 ∧ slen (T r 2) ≤ 100
def FarI (T : Tb) (i : Int) : Prop := ∀ r, 0 ≤ r → r < i → slen (T r 1) ≤ 100 ∧ slen (T r 2) ≤ 100
def u1 (k : Nat) : Int := if kar k = 0 then 23 else if kar k = 1 then -56 else 56
def u2 (k : Nat) : Int := if knm k = 0 then 23 else if knm k = 1 then (if k = 3 then -12728 else -14136) else if k = 5 then 14136 else 12728
def TabP (T : Tb) : Prop := ∀ k : Nat, 1 ≤ k → k ≤ 13 → T k 0 = senc (kw.getD k []) ∧ T k 1 = u1 k ∧ T k 2 = u2 k ∧ T k 3 = (knum k : Nat)
def NbI (s i : Int) : Prop := ∀ j, 0 ≤ j → j < i → sbyte s j ≠ 32 ∧ sbyte s j ≠ 34
def DigI (s i : Int) : Prop := ∀ j, 0 ≤ j → j < i → 48 ≤ sbyte s j ∧ sbyte s j ≤ 57
def AnyP (T : Tb) (lo n b : Int) : Prop := b ≠ 0 ↔ ∃ j, lo ≤ j ∧ j < lo + n ∧ T j 0 ≠ 0
def BigA (T : Tb) (lo n b : Int) : Prop := b ≠ 0 ↔ ∃ j, lo ≤ j ∧ j < lo + n ∧ Big (T j 0)
def AnyI (T : Tb) (lo i : Int) : Prop := ∀ j, lo ≤ j → j < lo + i → T j 0 = 0
def BigI (T : Tb) (lo i : Int) : Prop := ∀ j, lo ≤ j → j < lo + i → ¬ Big (T j 0)
def IdxP (T : Tb) (n x r : Int) : Prop := (r = -1 ∧ ∀ j, 0 ≤ j → j < n → T j 0 ≠ x) ∨ (0 ≤ r ∧ r < n ∧ T r 0 = x ∧ ∀ j, 0 ≤ j → j < r → T j 0 ≠ x)
def IdxI (T : Tb) (i x : Int) : Prop := ∀ j, 0 ≤ j → j < i → T j 0 ≠ x
def RenI (T : Tb) (n f t i : Int) (T' : Tb) : Prop := ∀ r, 0 ≤ r → r < n → ∀ c < 8, T' r c = if r < i ∧ c = 1 ∧ T r 1 = f then t else T r c
open Classical in
noncomputable def renE (T : Tb) (n f t e : Int) : Int := if e ≠ 0 then e else if nameF t = 0 then 6 else if ¬ Made T n f then 4 else if Made T n t then 8 else 0
def RenP (L A K : Int) (T : Tb) (n f t L' A' K' : Int) (T' : Tb) (n' e : Int) : Prop :=
  ∃ st ee, ChkP L A K T n st ee ∧ e = renE T n f t ee ∧ (e ≠ 0 → L' = 0 ∧ A' = 0 ∧ K' = 0 ∧ n' = 0) ∧ (e = 0 → L' = L ∧ A' = A ∧ K' = K ∧ n' = n ∧ RenI T n f t n T')
def cnt (T : Tb) : Nat → Int
  | 0 => 0
  | k + 1 => cnt T k + if T k 0 = 3 then 1 else 0
def mkAt (T : Tb) (n i : Int) : Option Nat := (List.range n.toNat).find? fun j : Nat => decide (T j 0 = 4 ∧ T j 1 = T i 1 ∧ T j 2 = T i 2)
def bhd (T : Tb) (n i : Int) (l : List Nat) : Int :=
  if T i 0 = 2 ∨ T i 0 = 6 then -1 else if T i 0 = 5 then (match mkAt T n i with
    | some m => if m ∈ l then (m : Int) else n
    | none => n) else n
def goes (T : Tb) (n i : Int) (l : List Nat) (k : Nat) : Bool := decide (T k 1 = T i 1 ∧ bhd T n i l < (k : Int))
def thr (T : Tb) (n : Int) : Nat → List Nat
  | 0 => []
  | i + 1 => (thr T n i).filter (fun k => !goes T n i (thr T n i) k) ++ if T i 0 = 3 ∨ T i 0 = 4 then [i] else []
def endA (T : Tb) (n : Int) : Nat → Nat → Int
  | 0, _ => n
  | i + 1, k => if k ∈ thr T n i ∧ goes T n i (thr T n i) k = true then (i : Int) else endA T n i k
def LvR (T : Tb) (i : Int) (O : Tb) (m : Int) (e : Nat → Int) : Prop := m = cnt T i.toNat ∧
  ∀ k : Nat, (k : Int) < i → T k 0 = 3 → O (cnt T k) 0 = T k 1 ∧ O (cnt T k) 1 = T k 2 ∧ O (cnt T k) 2 = T k 3 ∧ O (cnt T k) 3 = T k 4 ∧ O (cnt T k) 4 = k ∧ O (cnt T k) 5 = e k
def LivP (L A K : Int) (T : Tb) (n : Int) (O : Tb) (m e : Int) : Prop := (∃ st, ChkP L A K T n st e) ∧ (e ≠ 0 → m = 0) ∧ (e = 0 → LvR T n O m (endA T n n.toNat))
def code (T : Tb) (k : Nat) : Int := if T k 0 = 3 then cnt T k else -(k : Int) - 1
def ofA (T : Tb) (n i κ : Int) : List Nat := (thr T n i.toNat).filter fun k : Nat => decide (T k 1 = κ)
def FamI (T : Tb) (n i : Int) (F : Tb) : Prop := ∀ κ, F κ 0 = ((ofA T n i κ).length : Nat) ∧ ∀ (j k : Nat), (ofA T n i κ)[j]? = some k → F κ (j + 1) = code T k
def MrkI (T : Tb) (i : Int) (M : Tb) (q : Int) : Prop :=
  (∀ r : Nat, (r : Int) < q → M r 0 = 4 ∧ ∃ j : Nat, (j : Int) < i ∧ T j 0 = 4 ∧ T j 1 = M r 1 ∧ T j 2 = M r 2 ∧ M r 3 = -(j : Int) - 1) ∧
  ∀ j : Nat, (j : Int) < i → T j 0 = 4 → ∃ r : Nat, (r : Int) < q ∧ M r 0 = 4 ∧ M r 1 = T j 1 ∧ M r 2 = T j 2
def LivI (T : Tb) (n i : Int) (O : Tb) (m : Int) (F M : Tb) (q : Int) : Prop := LvR T i O m (endA T n i.toNat) ∧ FamI T n i F ∧ MrkI T i M q
def LvJ (T : Tb) (n i : Int) (O : Tb) (m k j : Int) : Prop :=
  LvR T i O m fun q => if q ∈ ((ofA T n i (T i 1)).drop k.toNat).take j.toNat then i else endA T n i.toNat q
def InP (U : Tb) (q n : Int) : Prop := ∀ r, 0 ≤ r → r < q → 0 ≤ U r 0 ∧ U r 0 < n
def lst (U : Tb) (q : Int) : List Nat := (List.range q.toNat).map fun r : Nat => (U r 0).toNat
def GonP (T : Tb) (n : Int) (U : Tb) (q i : Int) (G : Tb) : Prop := ∀ r, 0 ≤ r → r < q → (G r 0 ≠ 0 ↔ goes T n i (lst U q) (U r 0).toNat = true)
def FndP (T : Tb) (n k a m r : Int) : Prop := (r = -1 ∧ ¬ Has T n k a m) ∨ (0 ≤ r ∧ r < n ∧ T r 0 = k ∧ T r 1 = a ∧ T r 2 = m ∧ ¬ Has T r k a m)
def BhI (U : Tb) (j m n b : Int) : Prop := ((∃ r, 0 ≤ r ∧ r < j ∧ U r 0 = m) ∧ b = m) ∨ ((¬ ∃ r, 0 ≤ r ∧ r < j ∧ U r 0 = m) ∧ b = n)
def GoI (T U : Tb) (i b j : Int) (G : Tb) : Prop := ∀ r, 0 ≤ r → r < j → (G r 0 ≠ 0 ↔ T (U r 0) 1 = T i 1 ∧ b < U r 0)
def BhP (T : Tb) (n : Int) (U : Tb) (q i b : Int) : Prop := b = bhd T n i (lst U q)
def LstI (l : List Nat) (U : Tb) (q : Int) : Prop := q = (l.length : Nat) ∧ ∀ (r k : Nat), l[r]? = some k → U r 0 = k
def RLI (T : Tb) (n i : Int) (E U : Tb) (q : Int) : Prop := LstI (thr T n i.toNat) U q ∧ ∀ k : Nat, (k : Int) < i → E k 0 = endA T n i.toNat k
def RLJ (T : Tb) (n i : Int) (E U : Tb) (q : Int) (G : Tb) (k : Int) (V : Tb) (p : Int) : Prop :=
  LstI (((thr T n i.toNat).take k.toNat).filter fun x => !goes T n i (thr T n i.toNat) x) V p ∧
  ∀ x : Nat, (x : Int) ≤ i → E x 0 = if x ∈ (thr T n i.toNat).take k.toNat ∧ goes T n i (thr T n i.toNat) x = true then i else endA T n i.toNat x
def TIfn (j : Nat) (a b c _d : D) : D :=
  match j with
  | 3 => .i (senc (itoa a.int))
  | 5 => .i (joinS a.tab b.int c.int)
  | 6 => .t (splT a.int b.int)
  | 7 => .i (splN a.int b.int)
  | 8 => .i (trimS a.int b.int)
  | 9 => .i (hpre a.int b.int)
  | 10 => .i (pintL (sdec a.int))
  | 11 => .i (perrL (sdec a.int))
  | 12 => .i (accL (sdec a.int) b.int.toNat)
  | 13 => .i (hsuf a.int b.int)
  | 14 => .i (cntB a.int b.int)
  | 15 => .i (hasB a.int b.int)
  | 20 => .i (nameF a.int)
  | _ => .i 0
def TIpr (N : Nat) (j : Nat) (l : List D) : Prop :=
  match j, l with
  | 10, [.i s, .i n, .i e] => IntP s n e
  | 11, [.i s, .i b] => ∀ m, I64 m → sdec s = itoa m → b ≠ 0
  | 12, [.i s, .i a, .i r] => EndP s a r
  | 13, [.i s, .i a, .i i] => NoB s a i
  | 14, [.i s, .i b] => TextP s b
  | 15, [.i q, .i s, .i b] => RightP q s b
  | 16, [.i s, .t T, .i n, .i e] => SplP s T n e
  | 17, [.i s, .i a, .t T, .i n] => SplI s a T n ∧ SplJ s a T n
  | 20, [.i n] => dep n < N
  | 21, [.i n] => dep n ≤ N
  | 22, [.t T, .i n] => ∀ r : Int, 0 ≤ r → r < n → slen (T r 1) ≤ 100000
  | 30, [.t T, .i n, .i sep] => Short T n sep
  | 31, [.i k, .i a, .i m, .i x, .i y, .i z, .i w, .i n, .i e] => StepP k a m x y z w n e
  | 32, [.i k, .i a, .i m, .i x, .i y, .i z, .i w, .i n, .i s] => LineP k a m x y z w n s
  | 33, [.t T, .i lo, .i n, .i b, .i s, .i lo', .i n', .i b'] => FieldP T lo n b s lo' n' b'
  | 34, [.i s, .i k, .i a, .i m, .i x, .i y, .i z, .i w, .i n, .i b] => RawP s k a m x y z w n b
  | 35, [.i s, .i v, .i r, .i u] => IxP s v r u
  | 36, [.i s, .i v, .i q, .i u] => IxI s v q u
  | 37, [.i s, .i r, .i v, .t T, .i n] => PcI s r v T n
  | 38, [.t T, .i lo, .i n, .i b, .i x, .i lo', .i n', .i b'] => NumP T lo n b x lo' n' b'
  | 23, [.t T, .i n] => ∀ r : Int, 0 ≤ r → r < n → slen (T r 0) ≤ 100000
  | 40, [.i s, .i i] => NmI s i
  | 41, [.i s, .i l, .i b] => PrnP s l b
  | 42, [.i s, .i l, .i i] => PrnI s l i
  | 43, [.i k, .i a, .i m, .i x, .i y, .i z, .i w, .i n] => OkP k a m x y z w n
  | 44, [.i L, .i A, .i K, .t T, .i n, .i st, .i e] => ChkP L A K T n st e
  | 45, [.t T, .i n] => TbOk T n
  | 46, [.t M, .i q, .i k, .i a, .i m, .i x, .i y, .i z, .i w, .i n, .i e] => ChkM M q k a m x y z w n e
  | 47, [.t T, .i i, .t M, .i q] => MapI T i M q
  | 48, [.t T, .i i] => OkI T i
  | 49, [.t T, .i i, .i k, .i a, .i m, .i x, .i y, .i z, .i w, .i n, .i e] => AftP T i k a m x y z w n e
  | 50, [.t T, .i n, .i a, .i b] => MadeP T n a b
  | 51, [.t T, .i i, .i a] => ¬ Made T i a
  | 52, [.t T, .i n, .i k, .i a, .i m, .i r] => FindP T n k a m r
  | 53, [.t T, .i i, .i k, .i a, .i m] => ¬ Has T i k a m
  | 54, [.i k, .i a, .i m, .i x, .i y, .i z, .i w, .i n, .i s, .i e] => LnP k a m x y z w n s e
  | 55, [.i s, .t T, .i n, .i b] => WdsP s T n b
  | 56, [.t T, .i i, .t U, .i m] => WdsI T i U m
  | 57, [.t T, .i q, .i k] => KwI T q k
  | 58, [.t T, .i lo, .i i, .i x, .i y, .i z] => NumsI T lo i x y z
  | 59, [.i s, .i L, .i A, .i K, .i b] => HeadP s L A K b
  | 60, [.i s, .i k, .i a, .i m, .i x, .i y, .i z, .i w, .i n, .i e] => PLineP s k a m x y z w n e
  | 61, [.i s, .t T, .i n, .i e] => LinesP s T n e
  | 62, [.i s, .i p, .i i, .t T, .i n] => LinesI s p i T n
  | 63, [.i L, .i A, .i K, .t T, .i n, .i s, .i e] => PrintP L A K T n s e
  | 64, [.i L, .i A, .i K, .t T, .i i, .t U, .i m] => PrI L A K T i U m
  | 65, [.i L, .i A, .i K, .t T, .i i, .i s] => PrJ L A K T i s
  | 66, [.i s, .i L, .i A, .i K, .t T, .i n, .i l, .i e] => ParseP s L A K T n l e
  | 67, [.i L, .i A, .i K, .t T, .i n, .i L', .i A', .i K', .t T', .i n', .i b] => SameP L A K T n L' A' K' T' n' b
  | 68, [.t T, .t U, .i i] => SameI T U i
  | 69, [.t T, .i n, .i b] => FarP T n b
  | 70, [.t T, .i i] => FarI T i
  | 71, [.t T, .i n] => TbR T n
  | 72, [.t U, .t T, .i i] => ParI U T i
  | 73, [.i s, .i i] => DigI s i
  | 74, [.i s, .i i] => NbI s i
  | 80, [.t T] => TabP T
  | 81, [.t T, .i a, .i n, .i b] => AnyP T a n b
  | 82, [.t T, .i a, .i n, .i b] => BigA T a n b
  | 83, [.t T, .i a, .i i] => AnyI T a i
  | 84, [.t T, .i a, .i i] => BigI T a i
  | 85, [.t T, .i n, .i x, .i r] => IdxP T n x r
  | 86, [.t T, .i i, .i x] => IdxI T i x
  | 87, [.i L, .i A, .i K, .t T, .i n, .t O, .i m, .i e] => LivP L A K T n O m e
  | 88, [.t T, .i n, .i i, .t O, .i m, .t F, .t M, .i q] => LivI T n i O m F M q
  | 89, [.t T, .i n, .i f, .i t, .i i, .t T'] => RenI T n f t i T'
  | 91, [.t T, .i n, .i i, .t O, .i m, .i k, .i j] => LvJ T n i O m k j
  | 92, [.i L, .i A, .i K, .t T, .i n, .i f, .i t, .i L', .i A', .i K', .t T', .i n', .i e] => RenP L A K T n f t L' A' K' T' n' e
  | 93, [.t U, .i q, .i n] => InP U q n
  | 94, [.t T, .i n, .t U, .i q, .i i, .t G] => GonP T n U q i G
  | 95, [.t T, .i n, .i k, .i a, .i m, .i r] => FndP T n k a m r
  | 96, [.t U, .i j, .i m, .i n, .i b] => BhI U j m n b
  | 97, [.t T, .t U, .i i, .i b, .i j, .t G] => GoI T U i b j G
  | 98, [.t T, .i n, .t U, .i q, .i i, .i b] => BhP T n U q i b
  | 99, [.t T, .i n, .i i, .t E, .t U, .i q] => RLI T n i E U q
  | 100, [.t T, .i n, .i i, .t E, .t U, .i q, .t G, .i k, .t V, .i p] => RLJ T n i E U q G k V p
  | 101, [.t T, .i _, .i i, .t E, .t O, .i m] => LvR T i O m fun k => E k 0
  | _, _ => False
def TI (N : Nat) : Itp where
  fn j a b c d := some (TIfn j a b c d)
  pr := TIpr N
variable {N : Nat}
theorem TI_tot : (TI N).tot ttS := by
  intro j s hs a b c d
  unfold Itp.ap
  unfold ttS at hs
  split at hs <;> cases hs
  all_goals first
    | exact ⟨_, (if_neg (by decide)).trans rfl, trivial⟩
    | exact ⟨_, (if_pos (by decide)).trans rfl, trivial⟩
section signs
variable {a b c d x y z u v w p q : Int} {T : Tb}
theorem S6 : (TI N).ap 6 (.i a) (.i b) (.i c) (.i d) = some (.t (splT a b)) := rfl
theorem S7 : (TI N).ap 7 (.i a) (.i b) (.i c) (.i d) = some (.i (splN a b)) := rfl
theorem S20 : (TI N).ap 20 (.i a) (.i b) (.i c) (.i d) = some (.i (nameF a)) := rfl
theorem S1000 : (TI N).ap 1000 (.i a) (.i b) (.i c) (.i d) = some (.i (if a ≠ 0 then b else c)) := rfl
theorem S1001 : (TI N).ap 1001 (.i a) (.i b) (.i c) (.i d) = some (.i (slen a)) := rfl
theorem S1004 : (TI N).ap 1004 (.i a) (.i b) (.i c) (.i d) = some (.i (sbyte a b)) := rfl
theorem P31 : (TI N).pr 31 [.i a, .i b, .i c, .i d, .i x, .i y, .i z, .i u, .i v] = StepP a b c d x y z u v := rfl
theorem S1008 {U : Tb} : (TI N).ap 1008 (.t T) (.i b) (.t U) (.i d) = some (.i (tfind T U d.toNat b.toNat 0)) := rfl
theorem S1009 {U : Tb} : (TI N).ap 1009 (.t T) (.i b) (.t U) (.i d) = some (.t (mput T b U d.toNat)) := rfl
theorem P40 : (TI N).pr 40 [.i a, .i b] = NmI a b := rfl
theorem P44 : (TI N).pr 44 [.i a, .i b, .i c, .t T, .i d, .i x, .i y] = ChkP a b c T d x y := rfl
theorem P45 : (TI N).pr 45 [.t T, .i a] = TbOk T a := rfl
theorem P46 : (TI N).pr 46 [.t T, .i a, .i b, .i c, .i d, .i x, .i y, .i z, .i u, .i v, .i w] = ChkM T a b c d x y z u v w := rfl
theorem P47 {U : Tb} : (TI N).pr 47 [.t T, .i a, .t U, .i b] = MapI T a U b := rfl
theorem P48 : (TI N).pr 48 [.t T, .i a] = OkI T a := rfl
theorem P49 : (TI N).pr 49 [.t T, .i a, .i b, .i c, .i d, .i x, .i y, .i z, .i u, .i v, .i w] = AftP T a b c d x y z u v w := rfl
theorem P50 : (TI N).pr 50 [.t T, .i a, .i b, .i c] = MadeP T a b c := rfl
theorem P51 : (TI N).pr 51 [.t T, .i a, .i b] = (¬ Made T a b) := rfl
theorem P52 : (TI N).pr 52 [.t T, .i a, .i b, .i c, .i d, .i x] = FindP T a b c d x := rfl
theorem P53 : (TI N).pr 53 [.t T, .i a, .i b, .i c, .i d] = (¬ Has T a b c d) := rfl
theorem P67 {U : Tb} : (TI N).pr 67 [.i a, .i b, .i c, .t T, .i d, .i x, .i y, .i z, .t U, .i u, .i v] = SameP a b c T d x y z U u v := rfl
theorem P68 {U : Tb} : (TI N).pr 68 [.t T, .t U, .i a] = SameI T U a := rfl
theorem P69 : (TI N).pr 69 [.t T, .i a, .i b] = FarP T a b := rfl
theorem P70 : (TI N).pr 70 [.t T, .i a] = FarI T a := rfl
theorem P71 : (TI N).pr 71 [.t T, .i a] = TbR T a := rfl
theorem P80 : (TI N).pr 80 [.t T] = TabP T := rfl
theorem P81 : (TI N).pr 81 [.t T, .i a, .i b, .i c] = AnyP T a b c := rfl
theorem P82 : (TI N).pr 82 [.t T, .i a, .i b, .i c] = BigA T a b c := rfl
theorem P83 : (TI N).pr 83 [.t T, .i a, .i b] = AnyI T a b := rfl
theorem P84 : (TI N).pr 84 [.t T, .i a, .i b] = BigI T a b := rfl
variable {f t L' A' K' n' e k j : Int} {O U V M F E G T' : Tb}
theorem P85 : (TI N).pr 85 [.t T, .i a, .i b, .i c] = IdxP T a b c := rfl
theorem P86 : (TI N).pr 86 [.t T, .i a, .i b] = IdxI T a b := rfl
theorem P87 : (TI N).pr 87 [.i a, .i b, .i c, .t T, .i d, .t O, .i x, .i y] = LivP a b c T d O x y := rfl
theorem P88 : (TI N).pr 88 [.t T, .i a, .i b, .t O, .i c, .t F, .t M, .i d] = LivI T a b O c F M d := rfl
theorem P89 : (TI N).pr 89 [.t T, .i a, .i b, .i c, .i d, .t T'] = RenI T a b c d T' := rfl
theorem P91 : (TI N).pr 91 [.t T, .i a, .i b, .t O, .i c, .i d, .i x] = LvJ T a b O c d x := rfl
theorem P92 : (TI N).pr 92 [.i a, .i b, .i c, .t T, .i d, .i f, .i t, .i L', .i A', .i K', .t T', .i n', .i e] = RenP a b c T d f t L' A' K' T' n' e := rfl
theorem P93 : (TI N).pr 93 [.t U, .i a, .i b] = InP U a b := rfl
theorem P94 : (TI N).pr 94 [.t T, .i a, .t U, .i b, .i c, .t G] = GonP T a U b c G := rfl
theorem P95 : (TI N).pr 95 [.t T, .i a, .i b, .i c, .i d, .i x] = FndP T a b c d x := rfl
theorem P96 : (TI N).pr 96 [.t U, .i a, .i b, .i c, .i d] = BhI U a b c d := rfl
theorem P97 : (TI N).pr 97 [.t T, .t U, .i a, .i b, .i c, .t G] = GoI T U a b c G := rfl
theorem P98 : (TI N).pr 98 [.t T, .i a, .t U, .i b, .i c, .i d] = BhP T a U b c d := rfl
theorem P99 : (TI N).pr 99 [.t T, .i a, .i b, .t E, .t U, .i c] = RLI T a b E U c := rfl
theorem P100 : (TI N).pr 100 [.t T, .i a, .i b, .t E, .t U, .i c, .t G, .i d, .t V, .i x] = RLJ T a b E U c G d V x := rfl
theorem P101 : (TI N).pr 101 [.t T, .i a, .i b, .t E, .t O, .i c] = LvR T b O c fun k => E k 0 := rfl
theorem S1012 : (TI N).ap 1012 (.t T) (.i b) (.i c) (.i d) = some (.t (fmem T b)) := rfl
theorem S1013 : (TI N).ap 1013 (.t T) (.i b) (.t U) (.i d) = some (.t (fput T b U d)) := rfl
end signs
structure Core (s a : Int) (T : Tb) (n : Int) (ws : List (List UInt8)) (k : Nat) (w : List UInt8) : Prop where
  num : n = k
  here : ws[k]? = some w
  rows : RowsW T ws n
  quote : sbyte s a ≠ 34
  fin : ∀ r, a ≤ r → r ≤ slen s → EndP s a r → r = a + w.length ∧ ssub s a r = senc w ∧
    (r < slen s → sbyte s r = 32 ∧ r + 1 < slen s ∧ k + 1 < ws.length ∧ (sdec s).drop (r + 1).toNat = joinW (ws.drop (k + 1))) ∧ (r = slen s → k + 1 = ws.length)
end Go.Tt
namespace Go.Tt
open Go Go.Sx Go.Lib Go.Sf
theorem slen_nonneg (s : Int) : 0 ≤ slen s := by unfold slen; omega
theorem sdec_0 : sdec 0 = [] := rfl
theorem sdec_ne {s : Int} : sdec s ≠ [] ↔ s ≠ 0 := ⟨fun h e => h (by rw [e]; rfl), fun h e => h (sdec_inj (by rw [e]; rfl))⟩
theorem sbyte_mem {s n : Int} (h0 : 0 ≤ n) (h1 : n < slen s) : ∃ c, (sdec s)[n.toNat]? = some c ∧ c ∈ sdec s ∧ sbyte s n = (c.toNat : Nat) := by
  have hl : n.toNat < (sdec s).length := by unfold slen at h1; omega
  refine ⟨(sdec s)[n.toNat], List.getElem?_eq_getElem hl, List.getElem_mem hl, ?_⟩
  unfold sbyte
  rw [List.getElem?_eq_getElem hl]; rfl
theorem mem_sbyte {s : Int} {c : UInt8} (h : c ∈ sdec s) : ∃ n : Int, 0 ≤ n ∧ n < slen s ∧ sbyte s n = (c.toNat : Nat) := by
  obtain ⟨i, hi, rfl⟩ := List.getElem_of_mem h
  refine ⟨i, by omega, by unfold slen; omega, ?_⟩
  unfold sbyte
  rw [Int.toNat_natCast, List.getElem?_eq_getElem hi]; rfl
theorem BareW.bytes {w : List UInt8} (h : BareW w) {b : UInt8} (hb : b ∈ w) : (33 ≤ b.toNat ∧ b.toNat ≤ 126) ∧ b.toNat ≠ 34 := by
  have := h.2.2 b hb
  omega
end Go.Tt
namespace Go.Tt
open Go Go.Sx
set_option maxRecDepth 100000
def e0 : E := (sln (ν 0))
def e1 : E := (κ 100000)
def e2 : E := (fn2 8 (ν 0) (κ 23))
def p3 : PE := (γ ο (ν 3))
def q4 : Tree := (α (.pr 10 [(ν 0), ο, (κ 6)]) .ok)
def e5 : E := (π (ν 3) (κ 1))
def e6 : E := (κ 1000000)
def e7 : E := (fn1 10 (ν 0))
def e10 : E := (.bin .le ο (ν 1))
def p11 : PE := (γ (ν 1) e0)
def e12 : E := (.bin .lt (ν 1) e0)
def e13 : E := (fn2 1004 (ν 0) (ν 1))
def e14 : E := (.bin (.bits 1 .u8) e13 (κ 32))
def q15 : Tree := (α (.same ο (fn1 20 (ν 0))) .ok)
def e16 : E := (.bin .le (κ 48) e13)
def e17 : E := (χ (.bin .le e13 (κ 57)) ο)
def e18 : E := (π (ν 1) (κ 1))
def p19 : PE := (γ e18 e0)
def q20 : Tree := (α (γ ο (δ e0 e18)) (α (ω (δ e0 e18) (δ e0 (ν 1))) .ok))
def q21 : Tree := (α (ρ e18) (α (γ ο e18) (α p19 (α (.pr 40 [(ν 0), e18]) q20))))
def q22 : Tree := (β (χ (ν 1) ο) q15 (β (χ (χ e13 (κ 95)) ο) (β e16 (β e17 q15 q21) q15) q21))
def e23 : E := (.bin .le ο (ν 2))
def e28 : E := (π (ν 2) (κ 1))
def e31 : E := (fn1 1004 (ν 0))
def e34 : E := (sln (ν 1))
def p36 : PE := (γ e34 e1)
def e41 : E := (.bin .ne (ν 1) ο)
def e43 : E := (χ (ν 3) ο)
def p51 : PE := (γ ο (ν 4))
def p52 : PE := (γ (κ (-1)) (ν 5))
def e58 : E := (π (ν 4) (κ 1))
def e62 : E := (π (ν 5) (κ 1))
def p72 : PE := (γ ο (ν 6))
def p73 : PE := (γ ο (ν 7))
def p74 : PE := (γ (sln (ν 5)) e1)
def e75 : E := (ξ (ν 0) (π (ν 2) (ν 4)) 0)
def q76 : Tree := (α (γ ο (δ (ν 3) e58)) (α (ω (δ (ν 3) e58) (δ (ν 3) (ν 4))) .ok))
def e77 : E := (κ (-1000000000000))
def q78 : Tree := (α (.pr 82 [(ν 0), (ν 2), (ν 3), (.bin .le ο (ν 4))]) .ok)
def e79 : E := (κ 1000000000000)
def e80 : E := (sln (ν 2))
def p81 : PE := (γ e80 e1)
def q82 : Tree := (α (.pr 31 [(ν 0), (ν 1), (ν 2), (ν 3), (ν 4), (ν 5), (ν 6), (ν 7), (κ 2)]) .ok)
def e83 : E := (χ (ν 6) ο)
def e84 : E := (χ (ν 7) ο)
def e85 : E := (.bin .le ο (ν 0))
def e86 : E := (υ .zt ο 0 ο)
def e87 : E := (υ (υ (υ (υ (υ (υ (υ (υ (υ (υ (υ (υ (υ e86 (κ 1) 0 (κ 1)) (κ 2) 0 (κ 2)) (κ 3) 0 (κ 2)) (κ 4) 0 (κ 2)) (κ 5) 0 (κ 2)) (κ 6) 0 (κ 2)) (κ 7) 0 (κ 2)) (κ 8) 0 (κ 2)) (κ 9) 0 ο) (κ 10) 0 ο) (κ 11) 0 ο) (κ 12) 0 ο) (κ 13) 0 (κ 2))
def e88 : E := (υ (υ e86 (κ 1) 0 ο) (κ 2) 0 ο)
def e89 : E := (υ (υ (υ (υ (υ (υ (υ (υ (υ (υ (υ e88 (κ 3) 0 (κ 1)) (κ 4) 0 (κ 1)) (κ 5) 0 (κ 2)) (κ 6) 0 ο) (κ 7) 0 (κ 2)) (κ 8) 0 (κ 2)) (κ 9) 0 ο) (κ 10) 0 ο) (κ 11) 0 ο) (κ 12) 0 ο) (κ 13) 0 ο)
def e91 : E := (.bin .ne (ν 2) ο)
def e92 : E := (fn1 20 (ν 2))
def e93 : E := (υ (υ (υ (υ (υ (υ (υ (υ (υ (υ (υ (υ (υ e86 (κ 1) 0 (κ 3)) (κ 2) 0 ο) (κ 3) 0 (κ 2)) (κ 4) 0 ο) (κ 5) 0 ο) (κ 6) 0 ο) (κ 7) 0 (κ 1)) (κ 8) 0 (κ 2)) (κ 9) 0 (κ 1)) (κ 10) 0 ο) (κ 11) 0 (κ 1)) (κ 12) 0 (κ 3)) (κ 13) 0 ο)
def q100 : Tree := (α (.pr 31 [(ν 0), (ν 1), (ν 2), (ν 3), (ν 4), (ν 5), (ν 6), (ν 7), (κ 7)]) .ok)
def e101 : E := (χ (ν 6) (κ 1))
def e102 : E := (χ (ν 6) (κ 2))
def q103 : Tree := (α (.pr 31 [(ν 0), (ν 1), (ν 2), (ν 3), (ν 4), (ν 5), (ν 6), (ν 7), ο]) .ok)
def q104 : Tree := (β e102 (β (.bin .lt (ν 7) (κ 1)) q100 (β (.bin .lt (κ 999) (ν 7)) q100 q103)) q103)
def q107 : Tree := (α (.pr 31 [(ν 0), (ν 1), (ν 2), (ν 3), (ν 4), (ν 5), (ν 6), (ν 7), (κ 6)]) .ok)
def e110 : E := (χ (fn1 20 (ν 1)) ο)
def e126 : E := (κ 56327174044082)
def e127 : E := (κ (-17231794176406323))
def e128 : E := (κ (-55764601025338))
def e129 : E := (κ (-252115039034))
def e130 : E := (κ (-219919530809))
def e131 : E := (κ (-252148397367))
def e132 : E := (κ (-56325194363706))
def p236 : PE := (γ ο (ν 5))
def p237 : PE := (γ ο (ν 9))
def p238 : PE := (γ ο (ν 10))
def e242 : E := (.bin .le ο (ν 13))
def e244 : E := (.bin .le ο (ν 14))
def e274 : E := (χ (ν 11) ο)
def e282 : E := (χ (ν 14) ο)
def e283 : E := (χ (ν 15) ο)
def e295 : E := (χ (χ (ν 8) ο) ο)
def q327 : Tree := (β (χ (χ e13 (κ 95)) ο) q15 q21)
def q328 : Tree := (β (.bin .le (κ 65) e13) (β (χ (.bin .le e13 (κ 90)) ο) (β e16 (β e17 q327 q21) q327) q21) (β e16 (β e17 q327 q21) q327))
def q329 : Tree := (α (γ ο e0) (α (.pr 40 [(ν 0), ο]) (η (μ (.tt e10) (μ p11 (μ (.pr 40 [(ν 0), (ν 1)]) (β e12 (β (.bin .le (κ 97) e13) (β (.bin .le e13 (κ 122)) q21 q328) q328) (α (.same (κ 1) (fn1 20 (ν 0))) .ok))))))))
def q330 : Tree := (β (.bin .le (κ 65) e31) (β (χ (.bin .le e31 (κ 90)) ο) q15 q329) q15)
def e331 : E := (.bin .lt (ξ (ν 9) (ν 0) 3) (κ 1))
def e332 : E := (.bin .lt (ξ (ν 9) (ν 0) 3) (κ 2))
def e333 : E := (χ (χ (ν 4) ο) ο)
def e334 : E := (.bin .lt (ξ (ν 9) (ν 0) 3) (κ 3))
def e335 : E := (χ (χ (ν 5) ο) ο)
def q336 : Tree := (β (.bin .le e77 (ν 3)) (β (χ (.bin .le (ν 3) e79) ο) q100 (β (.bin .le e77 (ν 4)) (β (χ (.bin .le (ν 4) e79) ο) q100 (β (.bin .le e77 (ν 5)) (β (χ (.bin .le (ν 5) e79) ο) q100 (β e101 (β (.bin .le e77 (ν 7)) (β (χ (.bin .le (ν 7) e79) ο) q100 q104) q100) q104)) q100)) q100)) q100)
def q337 : Tree := (β e334 (β e335 q82 q336) q336)
def q338 : Tree := (β e332 (β e333 q82 q337) q337)
def q339 : Tree := (η (μ (.same (ν 10) e92) (β (χ e92 ο) q107 q336)))
def q340 : Tree := (β e334 (β e335 q82 q339) q339)
def q341 : Tree := (β e332 (β e333 q82 q340) q340)
def q342 : Tree := (η (μ (.same (ν 10) (fn1 20 (ν 1))) (β e110 q107 q336)))
def q343 : Tree := (β e334 (β e335 q82 q342) q342)
def q344 : Tree := (β e332 (β e333 q82 q343) q343)
def q345 : Tree := (η (μ (.same (ν 10) (fn1 20 (ν 1))) (β e110 q107 (η (μ (.same (ν 11) e92) (β (χ e92 ο) q107 q336))))))
def q346 : Tree := (β e334 (β e335 q82 q345) q345)
def q347 : Tree := (β e332 (β e333 q82 q346) q346)
def q348 : Tree := (τ (μ (.pr 80 [(ν 9)]) (α (.tt e85) (β (χ (ξ (ν 9) (ν 0) 1) (κ 23)) (β e41 q82 (β (χ (ξ (ν 9) (ν 0) 2) (κ 23)) (β e91 q82 (β e331 (β (χ e43 ο) q82 q338) q338)) (β e331 (β (χ e43 ο) q82 q341) q341))) (β (χ (ξ (ν 9) (ν 0) 2) (κ 23)) (β e91 q82 (β e331 (β (χ e43 ο) q82 q344) q344)) (β e331 (β (χ e43 ο) q82 q347) q347))))))
def e350 : E := (π (ν 6) (κ 1))
def q351 : Tree := (α (γ ο (δ (ν 2) e58)) (α (ω (δ (ν 2) e58) (δ (ν 2) (ν 4))) .ok))
def p383 : PE := (ρ (ν 10))
def e418 : E := (π (ν 7) (κ 1))
def tName : Tree := (μ (γ e0 e1) (α (γ ο e0) (α (.pr 40 [(ν 0), ο]) (η (μ (.tt e10) (μ p11 (μ (.pr 40 [(ν 0), (ν 1)]) (β e12 (β (.bin .le (κ 97) e14) (β (χ (.bin .le e14 (κ 122)) ο) q22 q21) q22) (β (.bin .le (κ 1) e0) (α (.same (.bin .le e0 (κ 16)) (fn1 20 (ν 0))) .ok) q15)))))))))
def tAny : Tree := (μ (.tt e23) (μ p3 (μ (γ (π (ν 2) (ν 3)) (ν 1)) (μ (γ (ν 3) (κ 1000)) (α (.pr 83 [(ν 0), (ν 2), ο]) (η (μ p51 (μ (γ (ν 4) (ν 3)) (μ (.pr 83 [(ν 0), (ν 2), (ν 4)]) (β (.bin .lt (ν 4) (ν 3)) (α (γ ο (π (ν 2) (ν 4))) (α (ω (π (ν 2) (ν 4)) (ν 1)) (β (χ (χ e75 ο) ο) (α (.pr 81 [(ν 0), (ν 2), (ν 3), (.bin .le ο (ν 4))]) .ok) (α (ρ e58) (α (γ ο e58) (α (γ e58 (ν 3)) (α (.pr 83 [(ν 0), (ν 2), e58]) q76))))))) (α (.pr 81 [(ν 0), (ν 2), (ν 3), ο]) .ok)))))))))))
def tBig : Tree := (μ (.tt e23) (μ p3 (μ (γ (π (ν 2) (ν 3)) (ν 1)) (μ (γ (ν 3) (κ 1000)) (α (.pr 84 [(ν 0), (ν 2), ο]) (η (μ p51 (μ (γ (ν 4) (ν 3)) (μ (.pr 84 [(ν 0), (ν 2), (ν 4)]) (β (.bin .lt (ν 4) (ν 3)) (α (γ ο (π (ν 2) (ν 4))) (α (ω (π (ν 2) (ν 4)) (ν 1)) (β (.bin .lt e75 e77) q78 (β (.bin .lt e79 e75) q78 (α (ρ e58) (α (γ ο e58) (α (γ e58 (ν 3)) (α (.pr 84 [(ν 0), (ν 2), e58]) q76)))))))) (α (.pr 82 [(ν 0), (ν 2), (ν 3), ο]) .ok)))))))))))
def tRName : Tree := (μ (γ e0 e1) (β (.bin .lt e0 (κ 1)) q15 (β (.bin .lt (κ 16) e0) q15 (α (ω ο e0) (β (.bin .le (κ 97) e31) (β (.bin .le e31 (κ 122)) q329 q330) q330)))))
def tTab : Tree := (α (.pr 80 [(υ (υ (υ (υ (υ (υ (υ (υ (υ (υ (υ (υ (υ (υ (υ (υ (υ (υ (υ (υ (υ (υ (υ (υ (υ (υ (υ (υ (υ (υ (υ (υ (υ (υ (υ (υ (υ (υ (υ (υ (υ (υ (υ (υ (υ (υ .zt (κ 1) 0 e126) (κ 1) 1 (κ (-56))) (κ 1) 2 (κ 23)) (κ 1) 3 (κ 3)) (κ 2) 0 e127) (κ 2) 1 (κ 56)) (κ 2) 2 (κ 23)) (κ 3) 0 (κ 215691474609)) (κ 3) 1 (κ 56)) (κ 3) 2 (κ (-12728))) (κ 3) 3 (κ 2)) (κ 4) 0 (κ 909750583)) (κ 4) 1 (κ 56)) (κ 4) 2 (κ (-14136))) (κ 5) 0 e128) (κ 5) 1 (κ 56)) (κ 5) 2 (κ 14136)) (κ 6) 0 e129) (κ 6) 1 (κ 56)) (κ 6) 2 (κ 23)) (κ 7) 0 (κ (-850475063))) (κ 7) 1 (κ 56)) (κ 7) 2 (κ 12728)) (κ 7) 3 (κ 1)) (κ 8) 0 (κ 220011707066)) (κ 8) 1 (κ 56)) (κ 8) 2 (κ 12728)) (κ 8) 3 (κ 2)) (κ 9) 0 (κ (-909260091))) (κ 9) 1 (κ 23)) (κ 9) 2 (κ 23)) (κ 9) 3 (κ 1)) (κ 10) 0 e130) (κ 10) 1 (κ 23)) (κ 10) 2 (κ 23)) (κ 11) 0 e131) (κ 11) 1 (κ 23)) (κ 11) 2 (κ 23)) (κ 11) 3 (κ 1)) (κ 12) 0 e132) (κ 12) 1 (κ 23)) (κ 12) 2 (κ 23)) (κ 12) 3 (κ 3)) (κ 13) 0 (κ (-859061045))) (κ 13) 1 (κ 56)) (κ 13) 2 (κ 23))]) .ok)
def tStepR : Tree := (μ (ρ (ν 0)) (μ p36 (μ p81 (μ (ρ (ν 3)) (μ (ρ (ν 4)) (μ (ρ (ν 5)) (μ (ρ (ν 6)) (μ (ρ (ν 7)) (β (.bin .lt (ν 0) (κ 1)) q82 (τ (μ (.pr 80 [(ν 8)]) (β (.bin .le (κ 14) (ν 0)) q82 (β (.bin .lt (ν 6) ο) q82 (β (.bin .lt (κ 2) (ν 6)) q82 (β e83 (β (χ e84 ο) q82 q348) q348)))))))))))))))
end Go.Tt
namespace Go.Tt
open Go Go.Sx Go.Lib Go.Sf
variable {s n lo m bad x lo' m' bad' e : Int} {T : Tb} {W : List (List UInt8)}
def base (k : Nat) : Nat := 1 + (if kar k = 0 then 0 else 1) + (if knm k = 0 then 0 else 1)
variable {k a b y z w u : Int}
structure Tail (s : Int) (T : Tb) (n : Int) (W : List (List UInt8)) (k a b x y z : Int) : Prop where
  spl : SplP s T n 0
  k13 : 1 ≤ k.toNat ∧ k.toNat ≤ 13
  k0 : 0 ≤ k
  head : W.head? = some (kw.getD k.toNat [])
  len : W.length = base k.toNat + knum k.toNat
  eq : W = (stp k a b x y z 0 0).wd
  norm : (stp k a b x y z 0 0).Norm
def kcode : Nat → Int
  | 1 => 56327174044082
  | 2 => -17231794176406323
  | 3 => 215691474609
  | 4 => 909750583
  | 5 => -55764601025338
  | 6 => -252115039034
  | 7 => -850475063
  | 8 => 220011707066
  | 9 => -909260091
  | 10 => -219919530809
  | 11 => -252148397367
  | 12 => -56325194363706
  | 13 => -859061045
  | _ => 0
theorem kc1 : senc (kw.getD 1 []) = (56327174044082 : Int) := by kernel_rfl
theorem kc2 : senc (kw.getD 2 []) = (-17231794176406323 : Int) := by kernel_rfl
theorem kc3 : senc (kw.getD 3 []) = (215691474609 : Int) := by kernel_rfl
theorem kc4 : senc (kw.getD 4 []) = (909750583 : Int) := by kernel_rfl
theorem kc5 : senc (kw.getD 5 []) = (-55764601025338 : Int) := by kernel_rfl
theorem kc6 : senc (kw.getD 6 []) = (-252115039034 : Int) := by kernel_rfl
theorem kc7 : senc (kw.getD 7 []) = (-850475063 : Int) := by kernel_rfl
theorem kc8 : senc (kw.getD 8 []) = (220011707066 : Int) := by kernel_rfl
theorem kc9 : senc (kw.getD 9 []) = (-909260091 : Int) := by kernel_rfl
theorem kc10 : senc (kw.getD 10 []) = (-219919530809 : Int) := by kernel_rfl
theorem kc11 : senc (kw.getD 11 []) = (-252148397367 : Int) := by kernel_rfl
theorem kc12 : senc (kw.getD 12 []) = (-56325194363706 : Int) := by kernel_rfl
theorem kc13 : senc (kw.getD 13 []) = (-859061045 : Int) := by kernel_rfl
theorem kc {j : Nat} (h1 : 1 ≤ j) (h2 : j ≤ 13) : senc (kw.getD j []) = kcode j := by
  have : j = 1 ∨ j = 2 ∨ j = 3 ∨ j = 4 ∨ j = 5 ∨ j = 6 ∨ j = 7 ∨ j = 8 ∨ j = 9 ∨ j = 10 ∨ j = 11 ∨ j = 12 ∨ j = 13 := by omega
  rcases this with rfl | rfl | rfl | rfl | rfl | rfl | rfl | rfl | rfl | rfl | rfl | rfl | rfl
  · exact kc1
  · exact kc2
  · exact kc3
  · exact kc4
  · exact kc5
  · exact kc6
  · exact kc7
  · exact kc8
  · exact kc9
  · exact kc10
  · exact kc11
  · exact kc12
  · exact kc13
end Go.Tt
