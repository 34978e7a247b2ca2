/-
  What texts of programs are, in plain words: what the signs of the contracts' formulas mean. Conditions: none; nothing here speaks of a program.
-/
import Derived.Lib.Join
import Derived.Test.YtiehemggplndcaaGreatDoorB1
import Derived.Test.YtiehemggplndcaaGreatDoorA1
import Derived.Test.YtiehemggplndcaaGreatDoorA2
import Derived.Lib.DecodeN
import Derived.Lib.FieldsU
import Derived.KernelRfl
namespace Go.Tt
open Go Go.Sx Go.Lib Go.Sf
abbrev Tb := Int → Nat → Int
def joinS (T : Tb) (n sep : Int) : Int := senc (Lib.join ((List.range n.toNat).map fun r : Nat => sdec (T (r : Int) 0)) (sdec sep))
def splT (s sep : Int) : Tb := fun r _ => senc ((Lib.split (sdec s) (sdec sep)).getD r.toNat [])
def splN (s sep : Int) : Int := ((Lib.split (sdec s) (sdec sep)).length : Nat)
def trimS (s p : Int) : Int := senc (Lib.trimPrefix (sdec s) (sdec p))
def hpre (s p : Int) : Int := if Lib.hasPrefix (sdec s) (sdec p) = true then 1 else 0
def pintL (l : List UInt8) : Int := match parseIntB 64 l with
  | .ok v => v
  | .range => intSat 64 l
  | _ => 0
def perrL (l : List UInt8) : Int := match parseIntB 64 l with
  | .ok _ => 0
  | _ => 1
def accL (l : List UInt8) : Nat → Int
  | 0 => 0
  | i + 1 =>
    let c : Int := (((l[i]?).getD 0).toNat : Nat)
    if 48 ≤ c ∧ c ≤ 57 then
      let d := IntKind.i64.wrap (IntKind.u8.wrap (c - 48))
      IntKind.i64.wrap (IntKind.i64.wrap (10 * accL l i) + if ((((l[0]?).getD 0).toNat : Nat) : Int) = 45 then -d else d)
    else accL l i
def nameF (s : Int) : Int := if NameP (sdec s) then 1 else 0
def RowsW (T : Tb) (ws : List (List UInt8)) (n : Int) : Prop := ∀ r : Nat, (r : Int) < n → T r 0 = 0 ∧ ∀ w, ws[r]? = some w → T r 1 = senc w
def IntP (s n e : Int) : Prop := (e = 0 ∧ I64 n ∧ sdec s = itoa n) ∨ (e ≠ 0 ∧ ∀ m, I64 m → sdec s ≠ itoa m)
def EndP (s a r : Int) : Prop := sbyte s a ≠ 34 → (∀ j, a ≤ j → j < r → sbyte s j ≠ 32) ∧ (r = slen s ∨ sbyte s r = 32)
def NoB (s a i : Int) : Prop := sbyte s a ≠ 34 → ∀ j, a ≤ j → j < i → sbyte s j ≠ 32
def TextP (s b : Int) : Prop := b ≠ 0 ↔ (sdec s).length ≤ 200 ∧ ∀ c ∈ sdec s, 32 ≤ c.toNat ∧ c.toNat ≤ 126
def RightP (q s b : Int) : Prop := q = 0 → (b ≠ 0 ↔ BareW (sdec s))
def SplP (s : Int) (T : Tb) (n e : Int) : Prop :=
  (∀ ws, Bare ws → ws.length ≤ 64 → slen s ≤ 4096 → sdec s = joinW ws → e = 0 ∧ n = (ws.length : Nat) ∧ RowsW T ws n) ∧
  (e = 0 → (∀ r : Nat, (r : Int) < n → T r 0 = 0) → ∃ ws, Bare ws ∧ ws.length ≤ 64 ∧ n = (ws.length : Nat) ∧ sdec s = joinW ws ∧ RowsW T ws n)
def SplI (s a : Int) (T : Tb) (n : Int) : Prop := ∀ ws, Bare ws → sdec s = joinW ws → ∃ k : Nat, n = k ∧ k ≤ ws.length ∧ RowsW T ws n ∧ (if k < ws.length then (sdec s).drop a.toNat = joinW (ws.drop k) ∧ a < slen s else slen s ≤ a)
def SplJ (s a : Int) (T : Tb) (n : Int) : Prop := (∀ r : Nat, (r : Int) < n → T r 0 = 0) → ∃ ws, Bare ws ∧ n = (ws.length : Nat) ∧ RowsW T ws n ∧
  ((a = 0 ∧ ws = []) ∨ (0 < a ∧ a < slen s ∧ (sdec s).take a.toNat = preW ws) ∨ (a = slen s + 1 ∧ sdec s = joinW ws))
def dep (n : Int) : Nat := 2 * nDigits n.natAbs + if n < 0 then 1 else 0
def Short (T : Tb) (n sep : Int) : Prop := n ≤ 1000 ∧ slen sep ≤ 1000 ∧ ∀ r : Nat, (r : Int) < n → slen (T r 0) ≤ 1000
def FieldP (T : Tb) (lo n bad s lo' n' bad' : Int) : Prop :=
  (0 < n ∧ T lo 0 = 0 ∧ s = T lo 1 ∧ lo' = lo + 1 ∧ n' = n - 1 ∧ bad' = bad) ∨ (¬ (0 < n ∧ T lo 0 = 0) ∧ s = 0 ∧ lo' = lo ∧ n' = n ∧ bad' = 1)
def NumP (T : Tb) (lo n bad x lo' n' bad' : Int) : Prop :=
  ∃ s b e, FieldP T lo n bad s lo' n' b ∧ IntP s x e ∧ bad' = if b ≠ 0 ∨ e ≠ 0 then 1 else 0
def stp (k a m x y z w n : Int) : Sp := ⟨k.toNat, sdec a, sdec m, x, y, z, w, n⟩
def StepP (k a m x y z w n e : Int) : Prop := e = stepE k (sdec a) (sdec m) x y z w n
def LineP (k a m x y z w n s : Int) : Prop := stepE k (sdec a) (sdec m) x y z w n = 0 → s = senc (stp k a m x y z w n).line
def RawP (s k a m x y z w n b : Int) : Prop :=
  (b ≠ 0 ∧ 0 ≤ k ∧ (stp k a m x y z w n).Norm ∧ (stp k a m x y z w n).NB ∧ sdec s = (stp k a m x y z w n).line) ∨
  (b = 0 ∧ ∀ t : Sp, t.Norm → t.NB → sdec s ≠ t.line)
def IxI (s v q u : Int) : Prop := v = 0 → (∀ j, 0 ≤ j → j < q → sbyte s j < 128 ∧ sbyte s j ≠ 34) → u = 0 ∧ ∀ j, 0 ≤ j → j < q → sbyte s j ≠ 32
def IxP (s v r u : Int) : Prop := (r = -1 ∧ IxI s v (slen s) u) ∨ (0 ≤ r ∧ r < slen s ∧ sbyte s r = 32 ∧ IxI s v r u)
def PcI (s r v : Int) (T : Tb) (n : Int) : Prop :=
  (∀ ws, Bare ws → sdec s = joinW ws → ∃ k : Nat, n = k ∧ k < ws.length ∧ RowsW T ws n ∧ v = 0 ∧ sdec r = joinW (ws.drop k)) ∧
  ((∀ r : Nat, (r : Int) < n → T r 0 = 0) → v = 0 ∧ ∃ ws, Bare ws ∧ n = (ws.length : Nat) ∧ RowsW T ws n ∧ sdec s = preW ws ++ sdec r)
def hsuf (s p : Int) : Int := if Lib.hasSuffix (sdec s) (sdec p) = true then 1 else 0
def cntB (s c : Int) : Int := ((sdec s).count (UInt8.ofNat c.toNat) : Nat)
def hasB (s c : Int) : Int := if UInt8.ofNat c.toNat ∈ sdec s then 1 else 0
def PrnP (s l b : Int) : Prop := b ≠ 0 ↔ ∀ c ∈ sdec s, l ≤ (c.toNat : Nat) ∧ c.toNat ≤ 126
def PrnI (s l i : Int) : Prop := ∀ j, 0 ≤ j → j < i → l ≤ sbyte s j ∧ sbyte s j ≤ 126
def LetI (c : Int) : Prop := (97 ≤ c ∧ c ≤ 122) ∨ (65 ≤ c ∧ c ≤ 90)
def NamI (c : Int) : Prop := LetI c ∨ (48 ≤ c ∧ c ≤ 57) ∨ c = 95
def NmI (s i : Int) : Prop := ∀ j, 0 ≤ j → j < i → NamI (sbyte s j) ∧ (j = 0 → LetI (sbyte s j))
def OkP (k a m x y z w n : Int) : Prop := stepE k (sdec a) (sdec m) x y z w n = 0
def spR (T : Tb) (r : Int) : Sp := stp (T r 0) (T r 1) (T r 2) (T r 3) (T r 4) (T r 5) (T r 6) (T r 7)
def TbR (T : Tb) (n : Int) : Prop := ∀ r, 0 ≤ r → r < n → I64 (T r 0) ∧ I64 (T r 3) ∧ I64 (T r 4) ∧ I64 (T r 5) ∧ I64 (T r 6) ∧ I64 (T r 7)
def TbOk (T : Tb) (n : Int) : Prop := TbR T n ∧ ∀ r, 0 ≤ r → r < n → slen (T r 1) ≤ 100000 ∧ slen (T r 2) ≤ 100000
def Has (T : Tb) (i k a m : Int) : Prop := ∃ j, 0 ≤ j ∧ j < i ∧ T j 0 = k ∧ T j 1 = a ∧ T j 2 = m
def Made (T : Tb) (i a : Int) : Prop := ∃ j, 0 ≤ j ∧ j < i ∧ T j 0 = 1 ∧ T j 1 = a
def kof : Nat → Int
  | 3 | 7 | 8 => 3
  | 4 | 5 => 4
  | _ => 0
open Classical in
noncomputable def nameE (A N : Prop) (k e : Int) : Int :=
  if e ≠ 0 then e
  else if (kar k.toNat = 1 ∧ A) ∨ (knm k.toNat = 1 ∧ N) then 8
  else if (kar k.toNat = 2 ∧ ¬ A) ∨ (knm k.toNat = 2 ∧ ¬ N) then 4 else 0
noncomputable def aftE (T : Tb) (i k a m x y z w n : Int) : Int := nameE (Made T i a) (Has T i (kof k.toNat) a m) k (stepE k (sdec a) (sdec m) x y z w n)
noncomputable def aftR (T : Tb) (i : Int) : Int := aftE T i (T i 0) (T i 1) (T i 2) (T i 3) (T i 4) (T i 5) (T i 6) (T i 7)
def OkI (T : Tb) (i : Int) : Prop := ∀ j, 0 ≤ j → j < i → aftR T j = 0
def InM (M : Tb) (m k a b : Int) : Prop := ∃ r, 0 ≤ r ∧ r < m ∧ M r 0 = k ∧ M r 1 = a ∧ M r 2 = b
def ChkM (M : Tb) (mm k a m x y z w n e : Int) : Prop := e = nameE (InM M mm 1 a 0) (InM M mm (kof k.toNat) a m) k (stepE k (sdec a) (sdec m) x y z w n)
def MapI (T : Tb) (i : Int) (M : Tb) (mm : Int) : Prop := OkI T i ∧ (∀ a, InM M mm 1 a 0 ↔ Made T i a) ∧ ∀ k a m, k = 3 ∨ k = 4 → (InM M mm k a m ↔ Has T i k a m)
def right (L A K : Int) : Prop := (0 ≤ L ∧ L ≤ 4096) ∧ (0 ≤ A ∧ A ≤ 1000000000000) ∧ (0 ≤ K ∧ K ≤ 1024)
def ChkP (L A K : Int) (T : Tb) (n st e : Int) : Prop :=
  (500 < n ∧ st = -1 ∧ e = 3) ∨ (n ≤ 500 ∧ ¬ right L A K ∧ st = -1 ∧ e = 7) ∨
  (n ≤ 500 ∧ right L A K ∧ ((st = 0 ∧ e = 0 ∧ OkI T n) ∨ (0 ≤ st ∧ st < n ∧ e ≠ 0 ∧ e = aftR T st ∧ OkI T st)))
def AftP (T : Tb) (i k a m x y z w n e : Int) : Prop := e = aftE T i k a m x y z w n
def MadeP (T : Tb) (n a b : Int) : Prop := b ≠ 0 ↔ Made T n a
def FindP (T : Tb) (n k a m r : Int) : Prop := 0 ≤ r ↔ Has T n k a m
def LnP (k a m x y z w n s e : Int) : Prop := e = stepE k (sdec a) (sdec m) x y z w n ∧ (e = 0 → s = senc (stp k a m x y z w n).line) ∧ (e ≠ 0 → s = 0)
def RowsS (T : Tb) (ws : List (List UInt8)) (n : Int) : Prop := n = (ws.length : Nat) ∧ ∀ (r : Nat) (w : List UInt8), ws[r]? = some w → T r 0 = senc w
def WdsP (s : Int) (T : Tb) (n b : Int) : Prop :=
  (b ≠ 0 → ∃ ws, Bare ws ∧ ws.length ≤ 64 ∧ sdec s = joinW ws ∧ RowsS T ws n) ∧ (b = 0 → ∀ ws, Bare ws → ws.length ≤ 64 → slen s ≤ 4096 → sdec s ≠ joinW ws)
def WdsI (T : Tb) (i : Int) (U : Tb) (m : Int) : Prop := m = i ∧ ∀ r : Nat, (r : Int) < i → T r 0 = 0 ∧ U r 0 = T r 1
def KwI (T : Tb) (q k : Int) : Prop := (k = 0 ∧ ∀ j : Nat, 1 ≤ j → (j : Int) < q → T 0 0 ≠ senc (kw.getD j [])) ∨ (1 ≤ k ∧ k < q ∧ T 0 0 = senc (kw.getD k.toNat []))
def IntOk (s x : Int) : Prop := I64 x ∧ sdec s = itoa x
def NumsI (T : Tb) (lo i x y z : Int) : Prop := (if 0 < i then IntOk (T lo 0) x else x = 0) ∧ (if 1 < i then IntOk (T (lo + 1) 0) y else y = 0) ∧ (if 2 < i then IntOk (T (lo + 2) 0) z else z = 0)
def wMan : List UInt8 := [109, 97, 110, 97, 103, 101, 114]
def headW (L A K : Int) : List UInt8 := joinW [wMan, itoa L, itoa A, itoa K]
def HeadP (s L A K b : Int) : Prop :=
  (b ≠ 0 ∧ I64 L ∧ I64 A ∧ I64 K ∧ sdec s = headW L A K) ∨ (b = 0 ∧ ∀ L A K, I64 L → I64 A → I64 K → sdec s ≠ headW L A K)
def LineOf (s : Int) (t : Sp) : Prop := t.Norm ∧ t.NB ∧ sdec s = t.line
def PLineP (s k a m x y z w n e : Int) : Prop :=
  (∃ t : Sp, LineOf s t ∧ e = stepE t.k t.a t.m t.x t.y t.z t.w t.n ∧ (e = 0 → 0 ≤ k ∧ stp k a m x y z w n = t) ∧ (e ≠ 0 → k = 0 ∧ a = 0 ∧ m = 0 ∧ x = 0 ∧ y = 0 ∧ z = 0 ∧ w = 0 ∧ n = 0)) ∨
  ((∀ t : Sp, ¬ LineOf s t) ∧ e = 6 ∧ k = 0 ∧ a = 0 ∧ m = 0 ∧ x = 0 ∧ y = 0 ∧ z = 0 ∧ w = 0 ∧ n = 0)
def lnsW (ls : List (List UInt8)) : List UInt8 := ls.flatMap fun l => l ++ [10]
def NoNl (ls : List (List UInt8)) : Prop := ∀ l ∈ ls, (10 : UInt8) ∉ l
def LinesP (s : Int) (T : Tb) (n e : Int) : Prop :=
  (∃ ls, NoNl ls ∧ sdec s = lnsW ls ∧ ((ls.length ≤ 5000 ∧ e = 0 ∧ RowsS T ls n) ∨ (5000 < ls.length ∧ e = 3 ∧ n = 0))) ∨ ((∀ ls, NoNl ls → sdec s ≠ lnsW ls) ∧ e = 6 ∧ n = 0)
def LinesI (s p i : Int) (T : Tb) (n : Int) : Prop := ∃ ls, NoNl ls ∧ (sdec s).take p.toNat = lnsW ls ∧ RowsS T ls n ∧ ∀ j, p ≤ j → j < i → sbyte s j ≠ 10
def prgL (L A K : Int) (T : Tb) (n : Nat) : List (List UInt8) := headW L A K :: (List.range n).map fun r : Nat => (spR T r).line
def PrintP (L A K : Int) (T : Tb) (n s e : Int) : Prop := (∃ st, ChkP L A K T n st e) ∧ (e = 0 → s = senc (lnsW (prgL L A K T n.toNat))) ∧ (e ≠ 0 → s = 0)
def PrI (L A K : Int) (T : Tb) (i : Int) (U : Tb) (m : Int) : Prop := RowsS U (prgL L A K T i.toNat) m
def PrJ (L A K : Int) (T : Tb) (i s : Int) : Prop := s = senc (lnsW (prgL L A K T i.toNat))
def RowsL (T : Tb) (ls : List (List UInt8)) : Prop := ∀ (r : Nat) (l : List UInt8), ls[r]? = some l → 0 ≤ T r 0 ∧ LineOf (senc l) (spR T r)
def Zero3 (L A K n : Int) : Prop := L = 0 ∧ A = 0 ∧ K = 0 ∧ n = 0
def ParseP (s L A K : Int) (T : Tb) (n line e : Int) : Prop :=
  (∃ h ls st, NoNl (h :: ls) ∧ sdec s = lnsW (h :: ls) ∧ ls.length < 5000 ∧ ∃ L' A' K' T', I64 L' ∧ I64 A' ∧ I64 K' ∧ h = headW L' A' K' ∧ RowsL T' ls ∧ ChkP L' A' K' T' (ls.length : Nat) st e ∧
    ((e = 0 ∧ L = L' ∧ A = A' ∧ K = K' ∧ n = (ls.length : Nat) ∧ (∀ r : Nat, r < ls.length → ∀ c < 8, T r c = T' r c) ∧ line = 0) ∨ (e ≠ 0 ∧ Zero3 L A K n ∧ line = st + 2))) ∨
  (∃ h ls i, NoNl (h :: ls) ∧ sdec s = lnsW (h :: ls) ∧ ls.length < 5000 ∧ (∃ L' A' K', I64 L' ∧ I64 A' ∧ I64 K' ∧ h = headW L' A' K') ∧ (∃ T', RowsL T' (ls.take i)) ∧ (∃ l, ls[i]? = some l ∧ ∀ t, ¬ LineOf (senc l) t) ∧ e = 6 ∧ Zero3 L A K n ∧ line = i + 2) ∨
  (∃ ls, NoNl ls ∧ sdec s = lnsW ls ∧ ls.length ≤ 5000 ∧ (∀ h, ls.head? = some h → ∀ L' A' K', I64 L' → I64 A' → I64 K' → h ≠ headW L' A' K') ∧ e = 6 ∧ Zero3 L A K n ∧ line = 1) ∨
  (∃ ls, NoNl ls ∧ sdec s = lnsW ls ∧ 5000 < ls.length ∧ e = 3 ∧ Zero3 L A K n ∧ line = 0) ∨
  ((∀ ls, NoNl ls → sdec s ≠ lnsW ls) ∧ e = 6 ∧ Zero3 L A K n ∧ line = 0)
def ParI (U : Tb) (T : Tb) (i : Int) : Prop := ∀ r : Nat, (r : Int) < i → 0 ≤ T r 0 ∧ LineOf (U (r + 1) 0) (spR T r)
def SameP (L A K : Int) (T : Tb) (n L' A' K' : Int) (T' : Tb) (n' b : Int) : Prop := b ≠ 0 ↔ L = L' ∧ A = A' ∧ K = K' ∧ n = n' ∧ ∀ r : Nat, (r : Int) < n → ∀ c < 8, T r c = T' r c
def SameI (T T' : Tb) (i : Int) : Prop := ∀ r : Nat, (r : Int) < i → ∀ c < 8, T r c = T' r c
def FarP (T : Tb) (n b : Int) : Prop := b = 0 → (n ≤ 60 ∨ 500 < n) ∧ n ≤ 600 ∧ ∀ r, 0 ≤ r → r < n → slen (T r 1) ≤ 100 ∧ slen (T r 2) ≤ 100
def FarI (T : Tb) (i : Int) : Prop := ∀ r, 0 ≤ r → r < i → slen (T r 1) ≤ 100 ∧ slen (T r 2) ≤ 100
def u1 (k : Nat) : Int := if kar k = 0 then 23 else if kar k = 1 then -56 else 56
def u2 (k : Nat) : Int := if knm k = 0 then 23 else if knm k = 1 then (if k = 3 then -12728 else -14136) else if k = 5 then 14136 else 12728
def TabP (T : Tb) : Prop := ∀ k : Nat, 1 ≤ k → k ≤ 13 → T k 0 = senc (kw.getD k []) ∧ T k 1 = u1 k ∧ T k 2 = u2 k ∧ T k 3 = (knum k : Nat)
def NbI (s i : Int) : Prop := ∀ j, 0 ≤ j → j < i → sbyte s j ≠ 32 ∧ sbyte s j ≠ 34
def DigI (s i : Int) : Prop := ∀ j, 0 ≤ j → j < i → 48 ≤ sbyte s j ∧ sbyte s j ≤ 57
def AnyP (T : Tb) (lo n b : Int) : Prop := b ≠ 0 ↔ ∃ j, lo ≤ j ∧ j < lo + n ∧ T j 0 ≠ 0
def BigA (T : Tb) (lo n b : Int) : Prop := b ≠ 0 ↔ ∃ j, lo ≤ j ∧ j < lo + n ∧ Big (T j 0)
def AnyI (T : Tb) (lo i : Int) : Prop := ∀ j, lo ≤ j → j < lo + i → T j 0 = 0
def BigI (T : Tb) (lo i : Int) : Prop := ∀ j, lo ≤ j → j < lo + i → ¬ Big (T j 0)
def TIfn (j : Nat) (a b c _d : D) : D :=
  match j with
  | 3 => .i (senc (itoa a.int))
  | 5 => .i (joinS a.tab b.int c.int)
  | 6 => .t (splT a.int b.int)
  | 7 => .i (splN a.int b.int)
  | 8 => .i (trimS a.int b.int)
  | 9 => .i (hpre a.int b.int)
  | 10 => .i (pintL (sdec a.int))
  | 11 => .i (perrL (sdec a.int))
  | 12 => .i (accL (sdec a.int) b.int.toNat)
  | 13 => .i (hsuf a.int b.int)
  | 14 => .i (cntB a.int b.int)
  | 15 => .i (hasB a.int b.int)
  | 20 => .i (nameF a.int)
  | _ => .i 0
def TIpr (N : Nat) (j : Nat) (l : List D) : Prop :=
  match j, l with
  | 10, [.i s, .i n, .i e] => IntP s n e
  | 11, [.i s, .i b] => ∀ m, I64 m → sdec s = itoa m → b ≠ 0
  | 12, [.i s, .i a, .i r] => EndP s a r
  | 13, [.i s, .i a, .i i] => NoB s a i
  | 14, [.i s, .i b] => TextP s b
  | 15, [.i q, .i s, .i b] => RightP q s b
  | 16, [.i s, .t T, .i n, .i e] => SplP s T n e
  | 17, [.i s, .i a, .t T, .i n] => SplI s a T n ∧ SplJ s a T n
  | 20, [.i n] => dep n < N
  | 21, [.i n] => dep n ≤ N
  | 22, [.t T, .i n] => ∀ r : Int, 0 ≤ r → r < n → slen (T r 1) ≤ 100000
  | 30, [.t T, .i n, .i sep] => Short T n sep
  | 31, [.i k, .i a, .i m, .i x, .i y, .i z, .i w, .i n, .i e] => StepP k a m x y z w n e
  | 32, [.i k, .i a, .i m, .i x, .i y, .i z, .i w, .i n, .i s] => LineP k a m x y z w n s
  | 33, [.t T, .i lo, .i n, .i b, .i s, .i lo', .i n', .i b'] => FieldP T lo n b s lo' n' b'
  | 34, [.i s, .i k, .i a, .i m, .i x, .i y, .i z, .i w, .i n, .i b] => RawP s k a m x y z w n b
  | 35, [.i s, .i v, .i r, .i u] => IxP s v r u
  | 36, [.i s, .i v, .i q, .i u] => IxI s v q u
  | 37, [.i s, .i r, .i v, .t T, .i n] => PcI s r v T n
  | 38, [.t T, .i lo, .i n, .i b, .i x, .i lo', .i n', .i b'] => NumP T lo n b x lo' n' b'
  | 23, [.t T, .i n] => ∀ r : Int, 0 ≤ r → r < n → slen (T r 0) ≤ 100000
  | 40, [.i s, .i i] => NmI s i
  | 41, [.i s, .i l, .i b] => PrnP s l b
  | 42, [.i s, .i l, .i i] => PrnI s l i
  | 43, [.i k, .i a, .i m, .i x, .i y, .i z, .i w, .i n] => OkP k a m x y z w n
  | 44, [.i L, .i A, .i K, .t T, .i n, .i st, .i e] => ChkP L A K T n st e
  | 45, [.t T, .i n] => TbOk T n
  | 46, [.t M, .i q, .i k, .i a, .i m, .i x, .i y, .i z, .i w, .i n, .i e] => ChkM M q k a m x y z w n e
  | 47, [.t T, .i i, .t M, .i q] => MapI T i M q
  | 48, [.t T, .i i] => OkI T i
  | 49, [.t T, .i i, .i k, .i a, .i m, .i x, .i y, .i z, .i w, .i n, .i e] => AftP T i k a m x y z w n e
  | 50, [.t T, .i n, .i a, .i b] => MadeP T n a b
  | 51, [.t T, .i i, .i a] => ¬ Made T i a
  | 52, [.t T, .i n, .i k, .i a, .i m, .i r] => FindP T n k a m r
  | 53, [.t T, .i i, .i k, .i a, .i m] => ¬ Has T i k a m
  | 54, [.i k, .i a, .i m, .i x, .i y, .i z, .i w, .i n, .i s, .i e] => LnP k a m x y z w n s e
  | 55, [.i s, .t T, .i n, .i b] => WdsP s T n b
  | 56, [.t T, .i i, .t U, .i m] => WdsI T i U m
  | 57, [.t T, .i q, .i k] => KwI T q k
  | 58, [.t T, .i lo, .i i, .i x, .i y, .i z] => NumsI T lo i x y z
  | 59, [.i s, .i L, .i A, .i K, .i b] => HeadP s L A K b
  | 60, [.i s, .i k, .i a, .i m, .i x, .i y, .i z, .i w, .i n, .i e] => PLineP s k a m x y z w n e
  | 61, [.i s, .t T, .i n, .i e] => LinesP s T n e
  | 62, [.i s, .i p, .i i, .t T, .i n] => LinesI s p i T n
  | 63, [.i L, .i A, .i K, .t T, .i n, .i s, .i e] => PrintP L A K T n s e
  | 64, [.i L, .i A, .i K, .t T, .i i, .t U, .i m] => PrI L A K T i U m
  | 65, [.i L, .i A, .i K, .t T, .i i, .i s] => PrJ L A K T i s
  | 66, [.i s, .i L, .i A, .i K, .t T, .i n, .i l, .i e] => ParseP s L A K T n l e
  | 67, [.i L, .i A, .i K, .t T, .i n, .i L', .i A', .i K', .t T', .i n', .i b] => SameP L A K T n L' A' K' T' n' b
  | 68, [.t T, .t U, .i i] => SameI T U i
  | 69, [.t T, .i n, .i b] => FarP T n b
  | 70, [.t T, .i i] => FarI T i
  | 71, [.t T, .i n] => TbR T n
  | 72, [.t U, .t T, .i i] => ParI U T i
  | 73, [.i s, .i i] => DigI s i
  | 74, [.i s, .i i] => NbI s i
  | 80, [.t T] => TabP T
  | 81, [.t T, .i a, .i n, .i b] => AnyP T a n b
  | 82, [.t T, .i a, .i n, .i b] => BigA T a n b
  | 83, [.t T, .i a, .i i] => AnyI T a i
  | 84, [.t T, .i a, .i i] => BigI T a i
  | _, _ => False
def TI (N : Nat) : Itp where
  fn j a b c d := some (TIfn j a b c d)
  pr := TIpr N
variable {N : Nat}
theorem TI_tot : (TI N).tot ttS := by
  intro j s hs a b c d
  unfold Itp.ap
  unfold ttS at hs
  split at hs <;> cases hs
  all_goals first
    | exact ⟨_, (if_neg (by decide)).trans rfl, trivial⟩
    | exact ⟨_, (if_pos (by decide)).trans rfl, trivial⟩
section signs
variable {a b c d x y z u v w p q : Int} {T : Tb}
theorem S3 : (TI N).ap 3 (.i a) (.i b) (.i c) (.i d) = some (.i (senc (itoa a))) := rfl
theorem S5 : (TI N).ap 5 (.t T) (.i b) (.i c) (.i d) = some (.i (joinS T b c)) := rfl
theorem S6 : (TI N).ap 6 (.i a) (.i b) (.i c) (.i d) = some (.t (splT a b)) := rfl
theorem S7 : (TI N).ap 7 (.i a) (.i b) (.i c) (.i d) = some (.i (splN a b)) := rfl
theorem S8 : (TI N).ap 8 (.i a) (.i b) (.i c) (.i d) = some (.i (trimS a b)) := rfl
theorem S9 : (TI N).ap 9 (.i a) (.i b) (.i c) (.i d) = some (.i (hpre a b)) := rfl
theorem S10 : (TI N).ap 10 (.i a) (.i b) (.i c) (.i d) = some (.i (pintL (sdec a))) := rfl
theorem S11 : (TI N).ap 11 (.i a) (.i b) (.i c) (.i d) = some (.i (perrL (sdec a))) := rfl
theorem S12 : (TI N).ap 12 (.i a) (.i b) (.i c) (.i d) = some (.i (accL (sdec a) b.toNat)) := rfl
theorem S20 : (TI N).ap 20 (.i a) (.i b) (.i c) (.i d) = some (.i (nameF a)) := rfl
theorem S1000 : (TI N).ap 1000 (.i a) (.i b) (.i c) (.i d) = some (.i (if a ≠ 0 then b else c)) := rfl
theorem S1001 : (TI N).ap 1001 (.i a) (.i b) (.i c) (.i d) = some (.i (slen a)) := rfl
theorem S1002 : (TI N).ap 1002 (.i a) (.i b) (.i c) (.i d) = some (.i (scat a b)) := rfl
theorem S1003 : (TI N).ap 1003 (.i a) (.i b) (.i c) (.i d) = some (.i (ssub a b c)) := rfl
theorem S1004 : (TI N).ap 1004 (.i a) (.i b) (.i c) (.i d) = some (.i (sbyte a b)) := rfl
theorem S1005 : (TI N).ap 1005 (.t T) (.i b) (.i c) (.i d) = some (.i (scode T b)) := rfl
theorem S1010 : (TI N).ap 1010 (.i a) (.i b) (.i c) (.i d) = some (.i (srune a b)) := rfl
theorem S1011 : (TI N).ap 1011 (.i a) (.i b) (.i c) (.i d) = some (.i (swidth a b)) := rfl
theorem P10 : (TI N).pr 10 [.i a, .i b, .i c] = IntP a b c := rfl
theorem P11 : (TI N).pr 11 [.i a, .i b] = ∀ m, I64 m → sdec a = itoa m → b ≠ 0 := rfl
theorem P12 : (TI N).pr 12 [.i a, .i b, .i c] = EndP a b c := rfl
theorem P13 : (TI N).pr 13 [.i a, .i b, .i c] = NoB a b c := rfl
theorem P14 : (TI N).pr 14 [.i a, .i b] = TextP a b := rfl
theorem P15 : (TI N).pr 15 [.i a, .i b, .i c] = RightP a b c := rfl
theorem P16 : (TI N).pr 16 [.i a, .t T, .i b, .i c] = SplP a T b c := rfl
theorem P17 : (TI N).pr 17 [.i a, .i b, .t T, .i c] = (SplI a b T c ∧ SplJ a b T c) := rfl
theorem P20 : (TI N).pr 20 [.i a] = (dep a < N) := rfl
theorem P21 : (TI N).pr 21 [.i a] = (dep a ≤ N) := rfl
theorem P22 : (TI N).pr 22 [.t T, .i b] = ∀ r : Int, 0 ≤ r → r < b → slen (T r 1) ≤ 100000 := rfl
theorem P30 : (TI N).pr 30 [.t T, .i b, .i c] = Short T b c := rfl
theorem P31 : (TI N).pr 31 [.i a, .i b, .i c, .i d, .i x, .i y, .i z, .i u, .i v] = StepP a b c d x y z u v := rfl
theorem P32 : (TI N).pr 32 [.i a, .i b, .i c, .i d, .i x, .i y, .i z, .i u, .i v] = LineP a b c d x y z u v := rfl
theorem P33 : (TI N).pr 33 [.t T, .i a, .i b, .i c, .i d, .i x, .i y, .i z] = FieldP T a b c d x y z := rfl
theorem P34 : (TI N).pr 34 [.i a, .i b, .i c, .i d, .i x, .i y, .i z, .i u, .i v, .i w] = RawP a b c d x y z u v w := rfl
theorem P35 : (TI N).pr 35 [.i a, .i b, .i c, .i d] = IxP a b c d := rfl
theorem P36 : (TI N).pr 36 [.i a, .i b, .i c, .i d] = IxI a b c d := rfl
theorem P37 : (TI N).pr 37 [.i a, .i b, .i c, .t T, .i d] = PcI a b c T d := rfl
theorem P38 : (TI N).pr 38 [.t T, .i a, .i b, .i c, .i d, .i x, .i y, .i z] = NumP T a b c d x y z := rfl
theorem S13 : (TI N).ap 13 (.i a) (.i b) (.i c) (.i d) = some (.i (hsuf a b)) := rfl
theorem S14 : (TI N).ap 14 (.i a) (.i b) (.i c) (.i d) = some (.i (cntB a b)) := rfl
theorem S15 : (TI N).ap 15 (.i a) (.i b) (.i c) (.i d) = some (.i (hasB a b)) := rfl
theorem S1008 {U : Tb} : (TI N).ap 1008 (.t T) (.i b) (.t U) (.i d) = some (.i (tfind T U d.toNat b.toNat 0)) := rfl
theorem S1009 {U : Tb} : (TI N).ap 1009 (.t T) (.i b) (.t U) (.i d) = some (.t (mput T b U d.toNat)) := rfl
theorem P23 : (TI N).pr 23 [.t T, .i a] = (∀ r : Int, 0 ≤ r → r < a → slen (T r 0) ≤ 100000) := rfl
theorem P40 : (TI N).pr 40 [.i a, .i b] = NmI a b := rfl
theorem P41 : (TI N).pr 41 [.i a, .i b, .i c] = PrnP a b c := rfl
theorem P42 : (TI N).pr 42 [.i a, .i b, .i c] = PrnI a b c := rfl
theorem P43 : (TI N).pr 43 [.i a, .i b, .i c, .i d, .i x, .i y, .i z, .i u] = OkP a b c d x y z u := rfl
theorem P44 : (TI N).pr 44 [.i a, .i b, .i c, .t T, .i d, .i x, .i y] = ChkP a b c T d x y := rfl
theorem P45 : (TI N).pr 45 [.t T, .i a] = TbOk T a := rfl
theorem P46 : (TI N).pr 46 [.t T, .i a, .i b, .i c, .i d, .i x, .i y, .i z, .i u, .i v, .i w] = ChkM T a b c d x y z u v w := rfl
theorem P47 {U : Tb} : (TI N).pr 47 [.t T, .i a, .t U, .i b] = MapI T a U b := rfl
theorem P48 : (TI N).pr 48 [.t T, .i a] = OkI T a := rfl
theorem P49 : (TI N).pr 49 [.t T, .i a, .i b, .i c, .i d, .i x, .i y, .i z, .i u, .i v, .i w] = AftP T a b c d x y z u v w := rfl
theorem P50 : (TI N).pr 50 [.t T, .i a, .i b, .i c] = MadeP T a b c := rfl
theorem P51 : (TI N).pr 51 [.t T, .i a, .i b] = (¬ Made T a b) := rfl
theorem P52 : (TI N).pr 52 [.t T, .i a, .i b, .i c, .i d, .i x] = FindP T a b c d x := rfl
theorem P53 : (TI N).pr 53 [.t T, .i a, .i b, .i c, .i d] = (¬ Has T a b c d) := rfl
theorem P54 : (TI N).pr 54 [.i a, .i b, .i c, .i d, .i x, .i y, .i z, .i u, .i v, .i w] = LnP a b c d x y z u v w := rfl
theorem P55 : (TI N).pr 55 [.i a, .t T, .i b, .i c] = WdsP a T b c := rfl
theorem P56 {U : Tb} : (TI N).pr 56 [.t T, .i a, .t U, .i b] = WdsI T a U b := rfl
theorem P57 : (TI N).pr 57 [.t T, .i a, .i b] = KwI T a b := rfl
theorem P58 : (TI N).pr 58 [.t T, .i a, .i b, .i c, .i d, .i x] = NumsI T a b c d x := rfl
theorem P59 : (TI N).pr 59 [.i a, .i b, .i c, .i d, .i x] = HeadP a b c d x := rfl
theorem P60 : (TI N).pr 60 [.i a, .i b, .i c, .i d, .i x, .i y, .i z, .i u, .i v, .i w] = PLineP a b c d x y z u v w := rfl
theorem P61 : (TI N).pr 61 [.i a, .t T, .i b, .i c] = LinesP a T b c := rfl
theorem P62 : (TI N).pr 62 [.i a, .i b, .i c, .t T, .i d] = LinesI a b c T d := rfl
theorem P63 : (TI N).pr 63 [.i a, .i b, .i c, .t T, .i d, .i x, .i y] = PrintP a b c T d x y := rfl
theorem P64 {U : Tb} : (TI N).pr 64 [.i a, .i b, .i c, .t T, .i d, .t U, .i x] = PrI a b c T d U x := rfl
theorem P65 : (TI N).pr 65 [.i a, .i b, .i c, .t T, .i d, .i x] = PrJ a b c T d x := rfl
theorem P66 : (TI N).pr 66 [.i a, .i b, .i c, .i d, .t T, .i x, .i y, .i z] = ParseP a b c d T x y z := rfl
theorem P67 {U : Tb} : (TI N).pr 67 [.i a, .i b, .i c, .t T, .i d, .i x, .i y, .i z, .t U, .i u, .i v] = SameP a b c T d x y z U u v := rfl
theorem P68 {U : Tb} : (TI N).pr 68 [.t T, .t U, .i a] = SameI T U a := rfl
theorem P69 : (TI N).pr 69 [.t T, .i a, .i b] = FarP T a b := rfl
theorem P70 : (TI N).pr 70 [.t T, .i a] = FarI T a := rfl
theorem P71 : (TI N).pr 71 [.t T, .i a] = TbR T a := rfl
theorem P72 {U : Tb} : (TI N).pr 72 [.t T, .t U, .i a] = ParI T U a := rfl
theorem P80 : (TI N).pr 80 [.t T] = TabP T := rfl
theorem P73 : (TI N).pr 73 [.i a, .i b] = DigI a b := rfl
theorem P74 : (TI N).pr 74 [.i a, .i b] = NbI a b := rfl
theorem P81 : (TI N).pr 81 [.t T, .i a, .i b, .i c] = AnyP T a b c := rfl
theorem P82 : (TI N).pr 82 [.t T, .i a, .i b, .i c] = BigA T a b c := rfl
theorem P83 : (TI N).pr 83 [.t T, .i a, .i b] = AnyI T a b := rfl
theorem P84 : (TI N).pr 84 [.t T, .i a, .i b] = BigI T a b := rfl
end signs
theorem sbyte_at {s : Int} {a i : Nat} {w t : List UInt8} (h : (sdec s).drop a = w ++ t) (hi : i < w.length) : sbyte s ((a + i : Nat) : Int) = (w[i].toNat : Nat) := by
  unfold sbyte
  have : (sdec s)[((a + i : Nat) : Int).toNat]? = some w[i] := by
    rw [Int.toNat_natCast, ← List.getElem?_drop, h, List.getElem?_append_left hi, List.getElem?_eq_getElem hi]
  rw [this]; rfl
theorem sbyte_behind {s : Int} {a : Nat} {w t : List UInt8} {c : UInt8} (h : (sdec s).drop a = w ++ c :: t) : sbyte s ((a + w.length : Nat) : Int) = (c.toNat : Nat) := by
  unfold sbyte
  have : (sdec s)[((a + w.length : Nat) : Int).toNat]? = some c := by
    rw [Int.toNat_natCast, ← List.getElem?_drop, h, List.getElem?_append_right (Nat.le_refl _)]; simp
  rw [this]; rfl
structure Core (s a : Int) (T : Tb) (n : Int) (ws : List (List UInt8)) (k : Nat) (w : List UInt8) : Prop where
  num : n = k
  here : ws[k]? = some w
  rows : RowsW T ws n
  quote : sbyte s a ≠ 34
  fin : ∀ r, a ≤ r → r ≤ slen s → EndP s a r → r = a + w.length ∧ ssub s a r = senc w ∧
    (r < slen s → sbyte s r = 32 ∧ r + 1 < slen s ∧ k + 1 < ws.length ∧ (sdec s).drop (r + 1).toNat = joinW (ws.drop (k + 1))) ∧ (r = slen s → k + 1 = ws.length)
theorem trim_itoa (m : Int) : Lib.trimPrefix (itoa m) [45] = decDigits m.natAbs := by
  unfold itoa
  by_cases h : m < 0
  · rw [if_pos h]; simp [Lib.trimPrefix, Lib.hasPrefix]
  · rw [if_neg h]
    have hm : m.toNat = m.natAbs := by omega
    rw [hm]
    have hd := dd_digit m.natAbs
    have hne := dd_ne m.natAbs
    generalize decDigits m.natAbs = l at hd hne
    cases l with
    | nil => exact absurd rfl hne
    | cons c r =>
      have hc := hd c (by simp)
      have : ¬ (45 : UInt8) = c := fun e => by subst e; simp at hc
      simp [Lib.trimPrefix, Lib.hasPrefix, this]
theorem pre_itoa (m : Int) : Lib.hasPrefix (itoa m) [45] = decide (m < 0) := by
  unfold itoa
  by_cases h : m < 0
  · rw [if_pos h]; simp [Lib.hasPrefix, h]
  · rw [if_neg h]
    have hd := dd_digit m.toNat
    have hne := dd_ne m.toNat
    generalize decDigits m.toNat = l at hd hne
    cases l with
    | nil => exact absurd rfl hne
    | cons c r =>
      have hc := hd c (by simp)
      have : ¬ (45 : UInt8) = c := fun e => by subst e; simp at hc
      simp [Lib.hasPrefix, List.isPrefixOf, this, h]
theorem dd_zero {u : Nat} {b : UInt8} (h : (decDigits u)[0]? = some b) (hb : b.toNat = 48) : u = 0 := by
  by_cases hu : 1 ≤ u
  · exact absurd hb (dd_head u hu b (by rw [List.head?_eq_getElem?]; exact h))
  · omega
end Go.Tt
namespace Go.Tt
open Go Go.Sx Go.Lib Go.Sf
theorem slen_nonneg (s : Int) : 0 ≤ slen s := by unfold slen; omega
theorem slen_zero {s : Int} (h : slen s = 0) : s = 0 := by
  have h1 : sdec s = [] := List.eq_nil_of_length_eq_zero (by simpa [slen] using h)
  have h2 : sdec 0 = [] := rfl
  exact sdec_inj (by rw [h1, h2])
theorem slen_pos {s : Int} (h : ¬ s = 0) : 0 < slen s := by
  have := slen_nonneg s
  rcases Int.lt_or_eq_of_le this with h1 | h1
  · exact h1
  · exact absurd (slen_zero h1.symm) h
theorem slen_senc (l : List UInt8) : slen (senc l) = (l.length : Nat) := by unfold slen; rw [sdec_senc]
theorem slen_0 : slen 0 = 0 := rfl
theorem sdec_0 : sdec 0 = [] := rfl
theorem sdec_ne {s : Int} : sdec s ≠ [] ↔ s ≠ 0 := ⟨fun h e => h (by rw [e]; rfl), fun h e => h (sdec_inj (by rw [e]; rfl))⟩
theorem sbyte_mem {s n : Int} (h0 : 0 ≤ n) (h1 : n < slen s) : ∃ c, (sdec s)[n.toNat]? = some c ∧ c ∈ sdec s ∧ sbyte s n = (c.toNat : Nat) := by
  have hl : n.toNat < (sdec s).length := by unfold slen at h1; omega
  refine ⟨(sdec s)[n.toNat], List.getElem?_eq_getElem hl, List.getElem_mem hl, ?_⟩
  unfold sbyte
  rw [List.getElem?_eq_getElem hl]; rfl
theorem mem_sbyte {s : Int} {c : UInt8} (h : c ∈ sdec s) : ∃ n : Int, 0 ≤ n ∧ n < slen s ∧ sbyte s n = (c.toNat : Nat) := by
  obtain ⟨i, hi, rfl⟩ := List.getElem_of_mem h
  refine ⟨i, by omega, by unfold slen; omega, ?_⟩
  unfold sbyte
  rw [Int.toNat_natCast, List.getElem?_eq_getElem hi]; rfl
theorem slen_scat (a b : Int) : slen (scat a b) = slen a + slen b := by
  unfold scat
  rw [slen_senc, List.length_append]
  unfold slen
  omega
theorem slen_ssub (a i j : Int) : slen (ssub a i j) ≤ ((j.toNat - i.toNat : Nat) : Int) ∧ slen (ssub a i j) ≤ slen a := by
  unfold ssub
  rw [slen_senc]
  have h1 := List.length_take_le (j.toNat - i.toNat) ((sdec a).drop i.toNat)
  have h2 : (((sdec a).drop i.toNat).take (j.toNat - i.toNat)).length ≤ ((sdec a).drop i.toNat).length := List.length_take_le' _ _
  rw [List.length_drop] at h2
  unfold slen
  omega
theorem sdec_ssub (a i j : Int) : sdec (ssub a i j) = ((sdec a).drop i.toNat).take (j.toNat - i.toNat) := by unfold ssub; rw [sdec_senc]
theorem scat_senc (l m : List UInt8) : scat (senc l) (senc m) = senc (l ++ m) := by unfold scat; rw [sdec_senc, sdec_senc]
theorem BareW.bytes {w : List UInt8} (h : BareW w) {b : UInt8} (hb : b ∈ w) : (33 ≤ b.toNat ∧ b.toNat ≤ 126) ∧ b.toNat ≠ 34 := by
  have := h.2.2 b hb
  omega
theorem rows_put {T : Tb} {ws : List (List UInt8)} {n q x : Int} {w : List UInt8} (h : RowsW T ws n) (hn : n = (ws.length : Nat)) (hq : q = 0) (hx : x = senc w) :
    RowsW (tupd (tupd T n 0 q) n 1 x) (ws ++ [w]) (n + 1) := by
  intro j hj
  by_cases hjn : (j : Int) = n
  · refine ⟨by simp [tupd, hjn, hq], fun w' hw' => ?_⟩
    have : j = ws.length := by omega
    subst this
    simp at hw'
    subst hw'
    simp [tupd, hjn, hx]
  · have := h j (by omega)
    refine ⟨by simp [tupd, hjn, this.1], fun w' hw' => ?_⟩
    rw [List.getElem?_append_left (by omega)] at hw'
    simp [tupd, hjn, this.2 w' hw']
theorem zero_put {T : Tb} {n q x : Int} (hn : 0 ≤ n) (h : ∀ r : Nat, (r : Int) < n + 1 → tupd (tupd T n 0 q) n 1 x r 0 = 0) : q = 0 ∧ ∀ r : Nat, (r : Int) < n → T r 0 = 0 := by
  refine ⟨?_, fun r hr => ?_⟩
  · have := h n.toNat (by omega)
    rw [Int.toNat_of_nonneg hn] at this
    simpa [tupd] using this
  · have := h r (by omega)
    have hne : ¬ ((r : Int) = n) := by omega
    simpa [tupd, hne] using this
theorem bare_put {ws : List (List UInt8)} {w : List UInt8} (h : Bare ws) (hw : BareW w) : Bare (ws ++ [w]) := fun x hx => by
  rcases List.mem_append.1 hx with hx | hx
  · exact h x hx
  · simp at hx; subst hx; exact hw
theorem rows_next {T : Tb} {n q x : Int} (h : ∀ r : Int, 0 ≤ r → r < n → slen (T r 1) ≤ 100000) (hx : slen x ≤ 100000) : ∀ r : Int, 0 ≤ r → r < n + 1 → slen (tupd (tupd T n 0 q) n 1 x r 1) ≤ 100000 := by
  intro r h0 h1
  by_cases hr : r = n
  · simp [tupd, hr, hx]
  · simp [tupd, hr]; exact h r h0 (by omega)
theorem joinW_bytes {ws : List (List UInt8)} (h : Bare ws) : ∀ b ∈ joinW ws, b.toNat < 128 ∧ b.toNat ≠ 34 := by
  induction ws with
  | nil => intro b hb; cases hb
  | cons w l ih =>
    intro b hb
    rw [joinW_cons] at hb
    rcases List.mem_append.1 hb with hb | hb
    · have := (h w (by simp)).bytes hb; omega
    · split at hb
      · cases hb
      · rcases List.mem_cons.1 hb with rfl | hb
        · exact ⟨by decide, by decide⟩
        · exact ih (fun x hx => h x (by simp [hx])) b hb
theorem ix_words {r at' u : Int} {ws : List (List UInt8)} (hB : Bare ws) (hne : ws ≠ []) (hr : sdec r = joinW ws) (h : IxP r 0 at' u) :
    u = 0 ∧ ∃ w l, ws = w :: l ∧ ((at' = -1 ∧ l = [] ∧ sdec r = w) ∨ (0 ≤ at' ∧ l ≠ [] ∧ at' = (w.length : Nat) ∧ sdec (ssub r 0 at') = w ∧ sdec (ssub r (at' + 1) (slen r)) = joinW l)) := by
  obtain ⟨w, l, rfl⟩ := List.exists_cons_of_ne_nil hne
  have hby : ∀ j, 0 ≤ j → j < slen r → sbyte r j < 128 ∧ sbyte r j ≠ 34 := fun j h0 h1 => by
    obtain ⟨c, _, h2, h3⟩ := sbyte_mem h0 h1
    rw [hr] at h2
    have := joinW_bytes hB c h2
    omega
  have hw := hB w (by simp)
  have hin : ∀ j : Nat, j < w.length → sbyte r j ≠ 32 := fun j hj => by
    have hd : (sdec r).drop 0 = w ++ (if l = [] then [] else 32 :: joinW l) := by rw [List.drop_zero, hr, joinW_cons]
    have := sbyte_at (s := r) (a := 0) (i := j) hd hj
    rw [Nat.zero_add] at this
    rw [this]
    have := hw.bytes (List.getElem_mem hj)
    omega
  rcases h with ⟨rfl, hI⟩ | ⟨h0, h1, h2, hI⟩
  · obtain ⟨hu, hn⟩ := hI rfl hby
    refine ⟨hu, w, l, rfl, .inl ⟨rfl, ?_, ?_⟩⟩
    all_goals
      by_cases hl : l = []
      · first
          | exact hl
          | (subst hl; rw [hr]; rfl)
      · exfalso
        have hd : (sdec r).drop 0 = w ++ 32 :: joinW l := by rw [List.drop_zero, hr, joinW_cons, if_neg hl]
        have hb := sbyte_behind (s := r) (a := 0) hd
        rw [Nat.zero_add] at hb
        refine hn w.length (by omega) ?_ hb
        unfold slen
        rw [hr, joinW_cons, if_neg hl]
        simp; omega
  · obtain ⟨hu, hn⟩ := hI rfl fun j hj0 hj1 => hby j hj0 (by omega)
    obtain ⟨A, rfl⟩ := Int.eq_ofNat_of_zero_le h0
    have hge : w.length ≤ A := by
      rcases Nat.lt_or_ge A w.length with hlt | hge
      · exact absurd h2 (hin A hlt)
      · exact hge
    have hl : l ≠ [] := fun hl => by
      subst hl
      unfold slen at h1
      rw [hr] at h1
      simp [joinW] at h1
      omega
    have hd : (sdec r).drop 0 = w ++ 32 :: joinW l := by rw [List.drop_zero, hr, joinW_cons, if_neg hl]
    have hb := sbyte_behind (s := r) (a := 0) hd
    rw [Nat.zero_add] at hb
    have hle : A ≤ w.length := by
      rcases Nat.lt_or_ge w.length A with hlt | hge
      · exact absurd hb (hn w.length (by omega) (by omega))
      · exact hge
    have hA : A = w.length := by omega
    subst hA
    rw [List.drop_zero] at hd
    refine ⟨hu, w, l, rfl, .inr ⟨h0, hl, rfl, ?_, ?_⟩⟩
    · rw [sdec_ssub, hd]
      simp
    · rw [sdec_ssub, hd]
      rw [show ((w.length : Int) + 1).toNat = w.length + 1 by omega, List.drop_append, List.drop_eq_nil_of_le (by omega)]
      simp only [List.nil_append, show w.length + 1 - w.length = 1 by omega, List.drop_succ_cons, List.drop_zero]
      refine List.take_of_length_le ?_
      unfold slen
      rw [hd]
      simp; omega
theorem pc_begin {s : Int} (h : ¬ s = 0) : PcI s s 0 (fun _ _ => 0) 0 := by
  refine ⟨fun ws hB hs => ⟨0, rfl, ?_, fun r hr => by omega, rfl, by simpa using hs⟩, fun _ => ⟨rfl, [], (fun _ h => by cases h), rfl, (fun r hr => by omega), by simp [preW]⟩⟩
  cases ws with
  | nil => exact absurd (sdec_inj (by rw [hs]; rfl)) h
  | cons w l => simp
theorem pc_bare {r at' u : Int} (hI : IxI r 0 at' u) (h0 : 0 ≤ at') (h1 : at' ≤ slen r) (hw : BareW (sdec (ssub r 0 at'))) : u = 0 := by
  refine (hI rfl fun j hj0 hj1 => ?_).1
  have hl : j.toNat < (sdec (ssub r 0 at')).length := by
    rw [sdec_ssub]
    simp only [List.length_take, List.length_drop]
    unfold slen at h1; omega
  have hb := hw.bytes (List.getElem_mem hl)
  have e : (sdec (ssub r 0 at'))[j.toNat]? = (sdec r)[j.toNat]? := by
    rw [sdec_ssub]
    simp only [Int.toNat_zero, List.drop_zero]
    rw [List.getElem?_take, if_pos (by omega)]
  have hb2 : sbyte r j = ((sdec (ssub r 0 at'))[j.toNat].toNat : Nat) := by
    unfold sbyte
    rw [← e, List.getElem?_eq_getElem hl]; rfl
  rw [hb2]; omega
theorem hpre_bare {w : List UInt8} {p : Int} (hw : BareW w) (hp : sdec p = w) : hpre p (-18) = 0 := by
  unfold hpre
  rw [hp]
  have e : sdec (-18) = [34] := rfl
  rw [e]
  obtain ⟨c, l, rfl⟩ := List.exists_cons_of_ne_nil hw.1
  have := hw.bytes (b := c) (by simp)
  have hc : ¬ (34 : UInt8) = c := fun h => by subst h; exact this.2 rfl
  simp [Lib.hasPrefix, List.isPrefixOf, hc]
theorem pc_word {s r v : Int} {T : Tb} {n at' u : Int} (hP : PcI s r v T n) (hI : IxP r v at' u) {ws : List (List UInt8)} (hB : Bare ws) (hs : sdec s = joinW ws) :
    ∃ k : Nat, n = k ∧ k < ws.length ∧ RowsW T ws n ∧ u = 0 ∧ ∃ w l, ws.drop k = w :: l ∧ BareW w ∧ ((at' = -1 ∧ l = [] ∧ sdec r = w) ∨ (0 ≤ at' ∧ l ≠ [] ∧ at' = (w.length : Nat) ∧ sdec (ssub r 0 at') = w ∧ sdec (ssub r (at' + 1) (slen r)) = joinW l)) := by
  obtain ⟨k, e1, e2, e3, rfl, e5⟩ := hP.1 ws hB hs
  have hne : ws.drop k ≠ [] := fun h => by
    have := congrArg List.length h
    simp at this; omega
  have hB' : Bare (ws.drop k) := fun w hw => hB w (List.mem_of_mem_drop hw)
  obtain ⟨hu, w, l, e6, e7⟩ := ix_words hB' hne e5 hI
  exact ⟨k, e1, e2, e3, hu, w, l, e6, hB' w (by rw [e6]; simp), e7⟩
theorem drop_at {ws : List (List UInt8)} {k : Nat} {w : List UInt8} {l : List (List UInt8)} (h : ws.drop k = w :: l) : ws[k]? = some w ∧ ws.drop (k + 1) = l := by
  constructor
  · have := congrArg (·[0]?) h
    simpa using this
  · have := congrArg (List.drop 1) h
    simpa [List.drop_drop] using this
theorem rows_word {T : Tb} {ws : List (List UInt8)} {k : Nat} {n : Int} {w : List UInt8} (hn : n = k) (hk : ws[k]? = some w) (h : RowsW T ws n) {q x : Int} (hq : q = 0) (hx : x = senc w) : RowsW (tupd (tupd T n 0 q) n 1 x) ws (n + 1) := by
  intro j hj
  by_cases hjn : (j : Int) = n
  · have hjk : j = k := by omega
    subst hjk
    refine ⟨by simp [tupd, hjn, hq], fun w' hw' => ?_⟩
    rw [hk] at hw'
    simp only [Option.some.injEq] at hw'
    subst hw'
    simp [tupd, hjn, hx]
  · have := h j (by omega)
    refine ⟨by simp [tupd, hjn, this.1], fun w' hw' => ?_⟩
    simp [tupd, hjn, this.2 w' hw']
theorem pc_next {s r v : Int} {T : Tb} {n at' u : Int} (hP : PcI s r v T n) (hn : 0 ≤ n) (hI : IxP r v at' u) (h0 : 0 ≤ at') {q x : Int}
    (hq : hpre (ssub r 0 at') (-18) = 0 → q = 0 ∧ x = ssub r 0 at') (hq2 : q = 0 → x = ssub r 0 at' ∧ BareW (sdec x)) : PcI s (ssub r (at' + 1) (slen r)) u (tupd (tupd T n 0 q) n 1 x) (n + 1) := by
  refine ⟨fun ws hB hs => ?_, fun hz => ?_⟩
  · obtain ⟨k, e1, e2, e3, e4, w, l, e5, e6, e7⟩ := pc_word hP hI hB hs
    rcases e7 with ⟨h, _⟩ | ⟨_, e8, e9, e10, e11⟩
    · omega
    obtain ⟨rfl, rfl⟩ := hq (hpre_bare e6 e10)
    obtain ⟨f1, f2⟩ := drop_at e5
    refine ⟨k + 1, by omega, ?_, rows_word e1 f1 e3 rfl (by rw [← e10, senc_sdec]), e4, by rw [e11, f2]⟩
    rcases Nat.lt_or_ge (k + 1) ws.length with h | h
    · exact h
    · exact absurd (by rw [← f2]; exact List.drop_eq_nil_of_le h) e8
  · obtain ⟨hq0, hz⟩ := zero_put hn hz
    obtain ⟨hx, hw⟩ := hq2 hq0
    obtain ⟨hv, ws, e1, e2, e3, e4⟩ := hP.2 hz
    subst hv
    rcases hI with ⟨h, _⟩ | ⟨_, h1, h2, hI⟩
    · omega
    have hw' : BareW (sdec (ssub r 0 at')) := by rw [← hx]; exact hw
    have hu := pc_bare hI h0 (by omega) hw'
    refine ⟨hu, ws ++ [sdec x], bare_put e1 hw, by simp; omega, rows_put e3 e2 hq0 (by rw [senc_sdec]), ?_⟩
    rw [preW_append, e4, hx]
    obtain ⟨c, hc, _, hc2⟩ := sbyte_mem (s := r) h0 h1
    have hc32 : c = 32 := by
      apply UInt8.toNat.inj
      rw [h2] at hc2
      have : c.toNat = 32 := by omega
      rw [this]; rfl
    subst hc32
    obtain ⟨hl, he⟩ := List.getElem?_eq_some_iff.1 hc
    have hr : sdec r = sdec (ssub r 0 at') ++ 32 :: sdec (ssub r (at' + 1) (slen r)) := by
      rw [sdec_ssub, sdec_ssub]
      simp only [Int.toNat_zero, List.drop_zero, Nat.sub_zero]
      have e1 : (sdec r).take at'.toNat ++ (sdec r).drop at'.toNat = sdec r := List.take_append_drop _ _
      have e2 : (sdec r).drop at'.toNat = 32 :: (sdec r).drop (at'.toNat + 1) := by rw [List.drop_eq_getElem_cons hl, he]
      rw [show (at' + 1).toNat = at'.toNat + 1 by omega]
      rw [List.take_of_length_le (l := (sdec r).drop (at'.toNat + 1)) (by unfold slen; simp), ← e2, e1]
    simp only [preW, List.append_assoc, List.cons_append, List.nil_append]
    rw [← hr]
theorem pc_last {s r v : Int} {T : Tb} {n u : Int} (hP : PcI s r v T n) (hn : 0 ≤ n) (hI : IxP r v (-1) u) {q x : Int}
    (hq : hpre r (-18) = 0 → q = 0 ∧ x = r) (hq2 : q = 0 → x = r ∧ BareW (sdec x)) :
    (64 < n + 1 → ∀ T', SplP s T' 0 3) ∧ (¬ 64 < n + 1 → SplP s (tupd (tupd T n 0 q) n 1 x) (n + 1) 0) := by
  have key : ∀ ws, Bare ws → sdec s = joinW ws → n + 1 = (ws.length : Nat) ∧ RowsW (tupd (tupd T n 0 q) n 1 x) ws (n + 1) := fun ws hB hs => by
    obtain ⟨k, e1, e2, e3, e4, w, l, e5, e6, e7⟩ := pc_word hP hI hB hs
    rcases e7 with ⟨_, rfl, e8⟩ | ⟨h, _⟩
    · obtain ⟨rfl, rfl⟩ := hq (hpre_bare e6 e8)
      obtain ⟨f1, f2⟩ := drop_at e5
      refine ⟨?_, rows_word e1 f1 e3 rfl (by rw [← e8, senc_sdec])⟩
      have := congrArg List.length f2
      simp at this
      omega
    · omega
  refine ⟨fun h T' => ⟨fun ws hB hl _ hs => ?_, fun h => by cases h⟩, fun h => ⟨fun ws hB hl _ hs => ?_, fun _ hz => ?_⟩⟩
  · have := (key ws hB hs).1; omega
  · obtain ⟨e1, e2⟩ := key ws hB hs
    exact ⟨rfl, e1, e2⟩
  · obtain ⟨hq0, hz⟩ := zero_put hn hz
    obtain ⟨rfl, hw⟩ := hq2 hq0
    obtain ⟨hv, ws, e1, e2, e3, e4⟩ := hP.2 hz
    exact ⟨ws ++ [sdec x], bare_put e1 hw, by simp; omega, by simp; omega, by rw [joinW_append, e4], rows_put e3 e2 hq0 (by rw [senc_sdec])⟩
theorem pc_bad {s r v : Int} {T : Tb} {n at' u : Int} (hP : PcI s r v T n) (hI : IxP r v at' u) {p : Int} (hp : (0 ≤ at' ∧ p = ssub r 0 at') ∨ (at' < 0 ∧ p = r)) (h : hpre p (-18) ≠ 0 ∨ ¬ BareW (sdec p)) (T' : Tb) (m : Int) {e : Int} (he : e ≠ 0) : SplP s T' m e := by
  refine ⟨fun ws hB _ _ hs => ?_, fun h => absurd h he⟩
  obtain ⟨k, e1, e2, e3, e4, w, l, e5, e6, e7⟩ := pc_word hP hI hB hs
  have hw : sdec p = w := by
    rcases e7 with ⟨h1, _, h2⟩ | ⟨h1, _, _, h2, _⟩ <;> rcases hp with ⟨h3, rfl⟩ | ⟨h3, rfl⟩
    · omega
    · exact h2
    · exact h2
    · omega
  rcases h with h | h
  · exact absurd (hpre_bare e6 hw) h
  · exact absurd (by rw [hw]; exact e6) h
theorem get_byte {s : Int} {i : Nat} (h : i < (sdec s).length) : (((ByteArray.mk (sdec s).toArray).get! i).toNat : Int) = sbyte s i := by
  unfold sbyte
  rw [Int.toNat_natCast, List.getElem?_eq_getElem h]
  show ((((sdec s).toArray)[i]!).toNat : Int) = _
  rw [getElem!_pos ((sdec s).toArray) i (by simpa using h)]
  simp
theorem rune_spec {s q : Int} (h0 : 0 ≤ q) (h1 : q < slen s) : (sbyte s q < 128 ∧ srune s q = sbyte s q ∧ swidth s q = 1) ∨ (128 ≤ sbyte s q ∧ 128 ≤ srune s q ∧ 1 ≤ swidth s q) := by
  obtain ⟨A, rfl⟩ := Int.eq_ofNat_of_zero_le h0
  have hl : A < (sdec s).length := by unfold slen at h1; omega
  have hb := get_byte hl
  unfold srune swidth
  rw [Int.toNat_natCast]
  unfold Utf8.decode
  simp only [Nat.add_zero]
  split
  · rename_i h
    left
    exact ⟨by omega, by omega, rfl⟩
  · rename_i h
    right
    refine ⟨by omega, ?_⟩
    have e : (Utf8.runeError : Nat) = 65533 := rfl
    split
    · split
      · rename_i h2; simp only at h2 ⊢; omega
      · rw [e]; simp only; omega
    · split
      · split
        · rename_i h2; simp only [Bool.and_eq_true, decide_eq_true_eq] at h2 ⊢; omega
        · rw [e]; simp only; omega
      · split
        · split
          · rename_i h2; simp only [Bool.and_eq_true, decide_eq_true_eq] at h2 ⊢; omega
          · rw [e]; simp only; omega
        · rw [e]; simp only; omega
theorem width_le {s q : Int} (h0 : 0 ≤ q) (h1 : q < slen s) : q + swidth s q ≤ slen s := by
  obtain ⟨A, rfl⟩ := Int.eq_ofNat_of_zero_le h0
  have hl : A < (sdec s).length := by unfold slen at h1; omega
  unfold swidth
  rw [Int.toNat_natCast, Lib.decode_at]
  have hsz : (ByteArray.mk (sdec s).toArray).size = (sdec s).length := by
    show (sdec s).toArray.size = _
    simp
  have := Lib.decodeN_le_n' ((ByteArray.mk (sdec s).toArray).size - A) ((ByteArray.mk (sdec s).toArray).get! A).toNat ((ByteArray.mk (sdec s).toArray).get! (A + 1)).toNat ((ByteArray.mk (sdec s).toArray).get! (A + 2)).toNat ((ByteArray.mk (sdec s).toArray).get! (A + 3)).toNat (by omega)
  unfold slen
  omega
theorem sbyte_beyond {s j : Int} (h : slen s ≤ j) : sbyte s j = 0 := by
  unfold sbyte
  rw [List.getElem?_eq_none (by unfold slen at h; omega)]; rfl
theorem ix_begin (s v : Int) : IxI s v 0 v := fun hv _ => ⟨hv, fun j h0 h1 => by omega⟩
theorem ix_end {s v q u : Int} (h : IxI s v q u) (hq : slen s ≤ q) : IxI s v (slen s) u := fun hv hj => by
  obtain ⟨h1, h2⟩ := h hv fun j h0 h1 => by
    by_cases hl : j < slen s
    · exact hj j h0 hl
    · rw [sbyte_beyond (by omega)]; omega
  exact ⟨h1, fun j h3 h4 => h2 j h3 (by omega)⟩
theorem ix_next {s v q u : Int} (h : IxI s v q u) (h0 : 0 ≤ q) (h1 : q < slen s) (hr : srune s q ≠ 34) (hb : ¬ (srune s q = 32 ∧ u = 0)) : IxI s v (q + swidth s q) u := fun hv hj => by
  have hw : 1 ≤ swidth s q := by rcases rune_spec h0 h1 with h | h <;> omega
  obtain ⟨h2, h3⟩ := h hv fun j hj0 hj1 => hj j hj0 (by omega)
  refine ⟨h2, fun j hj0 hj1 => ?_⟩
  rcases rune_spec h0 h1 with ⟨g1, g2, g3⟩ | ⟨g1, g2, g3⟩
  · by_cases hjq : j = q
    · subst hjq
      intro e
      exact hb ⟨by rw [g2, e], h2⟩
    · exact h3 j hj0 (by omega)
  · have := (hj q h0 (by omega)).1
    omega
theorem ix_quote {s v q u : Int} (_h : IxI s v q u) (h0 : 0 ≤ q) (h1 : q < slen s) (hr : srune s q = 34) (u' : Int) : IxI s v (q + swidth s q) u' := fun _ hj => by
  have hw : 1 ≤ swidth s q := by rcases rune_spec h0 h1 with h | h <;> omega
  have := hj q h0 (by omega)
  rcases rune_spec h0 h1 with ⟨g1, g2, g3⟩ | ⟨g1, g2, g3⟩ <;> omega
theorem ix_found {s v q u : Int} (h : IxI s v q u) (h0 : 0 ≤ q) (h1 : q < slen s) (hr : srune s q = 32) : IxP s v q u := by
  refine .inr ⟨h0, h1, ?_, h⟩
  rcases rune_spec h0 h1 with ⟨g1, g2, g3⟩ | ⟨g1, g2, g3⟩ <;> omega
end Go.Tt
namespace Go.Tt
open Go Go.Sx
set_option maxRecDepth 100000
def e0 : E := (.fn 1001 (.var 0) (.lit 0) (.lit 0) (.lit 0))
def e1 : E := (.lit 100000)
def p2 : PE := (.tt (.bin .le e0 e1))
def e3 : E := (.fn 8 (.var 0) (.lit 23) (.lit 0) (.lit 0))
def e4 : E := (.fn 9 (.var 0) (.lit 23) (.lit 0) (.lit 0))
def e5 : E := (.fn 1001 e3 (.lit 0) (.lit 0) (.lit 0))
def p6 : PE := (.tt (.bin .le (.lit 0) (.var 3)))
def e7 : E := (.fn 1004 e3 (.var 3) (.lit 0) (.lit 0))
def q8 : Tree := (.assert (.pr 10 [(.var 0), (.lit 0), (.lit 6)]) .ok)
def e9 : E := (.bin .add (.var 3) (.lit 1))
def p10 : PE := (.tt (.bin .le (.lit 0) e9))
def e11 : E := (.lit 1000000)
def e12 : E := (.fn 10 (.var 0) (.lit 0) (.lit 0) (.lit 0))
def e13 : E := (.fn 11 (.var 0) (.lit 0) (.lit 0) (.lit 0))
def q14 : Tree := (.assert (.pr 10 [(.var 0), (.lit 0), (.lit 7)]) .ok)
def q15 : Tree := (.assert (.tt (.bin .le e0 e11)) (.havoc false (.havoc false (.assume (.same (.var 4) e12) (.assume (.same (.var 5) e13) (.assume (.rng .i64 e12) (.branch (.bin .ne e13 (.lit 0)) q14 (.branch (.bin .lt e12 (.lit (-9223372036854775808))) q14 (.branch (.bin .lt (.lit 9223372036854775807) e12) q14 (.assert (.pr 10 [(.var 0), e12, (.lit 0)]) .ok))))))))))
def p16 : PE := (.tt (.bin .le (.lit 0) e0))
def e17 : E := (.bin .le (.lit 0) (.var 1))
def p18 : PE := (.tt (.bin .le (.var 1) e0))
def e19 : E := (.bin .lt (.var 1) e0)
def e20 : E := (.fn 1004 (.var 0) (.var 1) (.lit 0) (.lit 0))
def e21 : E := (.bin (.bits 1 .u8) e20 (.lit 32))
def e22 : E := (.fn 20 (.var 0) (.lit 0) (.lit 0) (.lit 0))
def q23 : Tree := (.assert (.same (.lit 0) e22) .ok)
def e24 : E := (.bin .eq (.bin .eq e20 (.lit 95)) (.lit 0))
def e25 : E := (.bin .le (.lit 48) e20)
def e26 : E := (.bin .eq (.bin .le e20 (.lit 57)) (.lit 0))
def e27 : E := (.bin .add (.var 1) (.lit 1))
def p28 : PE := (.rng .i64 e27)
def p29 : PE := (.tt (.bin .le (.lit 0) e27))
def p30 : PE := (.tt (.bin .le e27 e0))
def q31 : Tree := (.assert (.tt (.bin .le (.lit 0) (.bin .sub e0 e27))) (.assert (.tt (.bin .lt (.bin .sub e0 e27) (.bin .sub e0 (.var 1)))) .ok))
def q32 : Tree := (.assert p28 (.assert p29 (.assert p30 (.assert (.pr 40 [(.var 0), e27]) q31))))
def q33 : Tree := (.branch (.bin .eq (.var 1) (.lit 0)) q23 (.branch e24 (.branch e25 (.branch e26 q23 q32) q23) q32))
def e34 : E := (.bin .le (.lit 0) (.var 2))
def p35 : PE := (.tt (.bin .le (.var 2) e0))
def e36 : E := (.bin .lt (.var 2) e0)
def e37 : E := (.fn 1004 (.var 0) (.var 2) (.lit 0) (.lit 0))
def q38 : Tree := (.assert (.pr 41 [(.var 0), (.var 1), (.lit 0)]) .ok)
def e39 : E := (.bin .add (.var 2) (.lit 1))
def p40 : PE := (.rng .i64 e39)
def p41 : PE := (.tt (.bin .le (.lit 0) e39))
def p42 : PE := (.tt (.bin .le e39 e0))
def e43 : E := (.bin .sub e0 (.var 2))
def q44 : Tree := (.assert (.tt (.bin .le (.lit 0) (.bin .sub e0 e39))) (.assert (.tt (.bin .lt (.bin .sub e0 e39) e43)) .ok))
def e45 : E := (.lit 5000)
def e46 : E := (.fn 1001 (.lit 0) (.lit 0) (.lit 0) (.lit 0))
def q47 : Tree := (.assert (.tt (.bin .le e46 (.lit 10000))) .ok)
def e48 : E := (.bin .lt (.lit 0) e0)
def e49 : E := (.fn 1004 (.var 0) (.lit 0) (.lit 0) (.lit 0))
def e50 : E := (.bin .eq (.bin .eq e49 (.lit 34)) (.lit 0))
def e51 : E := (.bin .sub e0 (.lit 1))
def p52 : PE := (.rng .i64 e51)
def p53 : PE := (.tt (.bin .le (.lit 0) e51))
def p54 : PE := (.tt (.bin .lt e51 e0))
def e55 : E := (.fn 1004 (.var 0) e51 (.lit 0) (.lit 0))
def e56 : E := (.bin .eq (.bin .eq e55 (.lit 34)) (.lit 0))
def e57 : E := (.fn 1001 (.var 1) (.lit 0) (.lit 0) (.lit 0))
def e58 : E := (.lit 200)
def e59 : E := (.bin .le e57 e58)
def p60 : PE := (.tt (.bin .le e57 e1))
def p61 : PE := (.pr 41 [(.var 1), (.lit 32), (.var 2)])
def e62 : E := (.bin .eq (.var 2) (.lit 0))
def e63 : E := (.fn 1001 (.var 3) (.lit 0) (.lit 0) (.lit 0))
def e64 : E := (.fn 1002 (.lit (-18)) (.var 3) (.lit 0) (.lit 0))
def q65 : Tree := (.assert (.pr 15 [(.var 0), (.var 1), (.var 2)]) .ok)
def q66 : Tree := (.assert (.pr 15 [(.var 0), (.var 1), (.lit 0)]) .ok)
def e67 : E := (.bin .ne (.var 1) (.lit 0))
def e68 : E := (.fn 15 (.var 1) (.lit 34) (.lit 0) (.lit 0))
def e69 : E := (.fn 1010 (.var 0) (.var 2) (.lit 0) (.lit 0))
def e70 : E := (.bin .eq (.var 3) (.lit 0))
def e71 : E := (.bin .eq e70 (.lit 0))
def e72 : E := (.lit (-1))
def e73 : E := (.bin .add e0 (.lit 1))
def e74 : E := (.bin .add (.var 2) (.fn 1011 (.var 0) (.var 2) (.lit 0) (.lit 0)))
def q75 : Tree := (.assert (.tt (.bin .le (.lit 0) (.bin .sub e0 e74))) (.assert (.tt (.bin .lt (.bin .sub e0 e74) e43)) .ok))
def q76 : Tree := (.assert (.tt (.bin .le (.lit 0) e74)) (.assert (.tt (.bin .le e74 e0)) (.assert (.pr 36 [(.var 0), (.var 1), e74, e70]) q75)))
def q77 : Tree := (.assert (.tt (.bin .le (.lit 0) e74)) (.assert (.tt (.bin .le e74 e0)) (.assert (.pr 36 [(.var 0), (.var 1), e74, (.var 3)]) q75)))
def p78 : PE := (.pr 22 [.zt, (.lit 0)])
def q79 : Tree := (.assert (.pr 16 [(.var 0), .zt, (.lit 0), (.lit 3)]) .ok)
def p80 : PE := (.tt (.bin .le (.lit 0) (.var 4)))
def p81 : PE := (.tt (.bin .le e72 (.var 5)))
def e82 : E := (.fn 9 (.var 1) (.lit (-18)) (.lit 0) (.lit 0))
def e83 : E := (.fn 1001 (.var 8) (.lit 0) (.lit 0) (.lit 0))
def p84 : PE := (.tt (.bin .le e83 (.lit 10000)))
def e85 : E := (.bin .eq (.var 9) (.lit 0))
def q86 : Tree := (.assert (.pr 16 [(.var 0), .zt, (.lit 0), (.lit 6)]) .ok)
def p87 : PE := (.tt (.bin .le e83 e1))
def p88 : PE := (.pr 15 [(.lit 1), (.var 8), (.var 10)])
def e89 : E := (.bin .eq (.var 10) (.lit 0))
def e90 : E := (.bin .add (.var 4) (.lit 1))
def p91 : PE := (.tt (.bin .le e90 e11))
def p92 : PE := (.tt (.bin .le (.lit 0) e90))
def e93 : E := (.upd (.upd (.var 3) (.var 4) 0 (.lit 1)) (.var 4) 1 (.var 8))
def e94 : E := (.bin .eq (.var 8) (.lit 0))
def e95 : E := (.upd (.var 3) (.var 4) 0 (.lit 0))
def e96 : E := (.fn 1003 (.var 1) (.lit 0) (.var 5) (.lit 0))
def e97 : E := (.fn 9 e96 (.lit (-18)) (.lit 0) (.lit 0))
def e98 : E := (.fn 1001 e96 (.lit 0) (.lit 0) (.lit 0))
def e99 : E := (.bin .add (.var 5) (.lit 1))
def p100 : PE := (.rng .i64 e99)
def p101 : PE := (.tt (.bin .le (.lit 0) e99))
def e102 : E := (.fn 1003 (.var 1) e99 e57 (.lit 0))
def e103 : E := (.fn 1001 e102 (.lit 0) (.lit 0) (.lit 0))
def p104 : PE := (.tt (.bin .le (.bin .add e90 e103) e0))
def q105 : Tree := (.assert (.tt (.bin .le (.lit 0) e103)) (.assert (.tt (.bin .lt e103 e57)) .ok))
def p106 : PE := (.tt (.bin .le (.bin .add (.var 1) (.var 2)) (.var 4)))
def p107 : PE := (.tt (.bin .le e46 e1))
def q108 : Tree := (.assert p107 (.assert (.pr 33 [(.var 0), (.var 1), (.var 2), (.var 3), (.lit 0), (.var 1), (.var 2), (.lit 1)]) .ok))
def p109 : PE := (.tt (.bin .lt (.lit 0) (.var 2)))
def p110 : PE := (.tt (.bin .le (.lit 1) (.var 2)))
def p111 : PE := (.tt (.bin .le (.var 2) (.var 2)))
def e112 : E := (.bin .sub (.var 2) (.lit 1))
def p113 : PE := (.tt (.bin .le (.lit 0) e112))
def p114 : PE := (.tt (.bin .le (.lit 0) (.var 6)))
def p115 : PE := (.tt (.bin .le (.lit 0) (.var 7)))
def p116 : PE := (.tt (.bin .le (.fn 1001 (.var 5) (.lit 0) (.lit 0) (.lit 0)) e1))
def p117 : PE := (.rng .i64 (.var 9))
def p118 : PE := (.tt (.bin .le (.bin .add (.var 2) (.var 3)) (.var 1)))
def p119 : PE := (.tt (.bin .le (.var 3) (.lit 1000)))
def p120 : PE := (.tt (.bin .le (.var 4) (.var 3)))
def e121 : E := (.bin .add (.var 2) (.var 4))
def e122 : E := (.sel (.var 0) e121 0)
def p123 : PE := (.rng .i64 e90)
def q124 : Tree := (.assert (.tt (.bin .le (.lit 0) (.bin .sub (.var 3) e90))) (.assert (.tt (.bin .lt (.bin .sub (.var 3) e90) (.bin .sub (.var 3) (.var 4)))) .ok))
def e125 : E := (.lit (-1000000000000))
def q126 : Tree := (.assert (.pr 82 [(.var 0), (.var 2), (.var 3), (.bin .le (.lit 0) (.var 4))]) .ok)
def e127 : E := (.lit 1000000000000)
def p128 : PE := (.rng .i64 (.var 0))
def p132 : PE := (.rng .i64 (.var 4))
def p133 : PE := (.rng .i64 (.var 5))
def p134 : PE := (.rng .i64 (.var 6))
def p135 : PE := (.rng .i64 (.var 7))
def e137 : E := (.bin .eq (.var 6) (.lit 0))
def e138 : E := (.bin .eq (.var 7) (.lit 0))
def e139 : E := (.bin .eq e138 (.lit 0))
def e140 : E := (.bin .le (.lit 0) (.var 0))
def e141 : E := (.upd .zt (.lit 0) 0 (.lit 0))
def e142 : E := (.upd (.upd (.upd (.upd (.upd (.upd (.upd (.upd (.upd (.upd (.upd (.upd (.upd e141 (.lit 1) 0 (.lit 1)) (.lit 2) 0 (.lit 2)) (.lit 3) 0 (.lit 2)) (.lit 4) 0 (.lit 2)) (.lit 5) 0 (.lit 2)) (.lit 6) 0 (.lit 2)) (.lit 7) 0 (.lit 2)) (.lit 8) 0 (.lit 2)) (.lit 9) 0 (.lit 0)) (.lit 10) 0 (.lit 0)) (.lit 11) 0 (.lit 0)) (.lit 12) 0 (.lit 0)) (.lit 13) 0 (.lit 2))
def e143 : E := (.upd (.upd e141 (.lit 1) 0 (.lit 0)) (.lit 2) 0 (.lit 0))
def e144 : E := (.upd (.upd (.upd (.upd (.upd (.upd (.upd (.upd (.upd (.upd (.upd e143 (.lit 3) 0 (.lit 1)) (.lit 4) 0 (.lit 1)) (.lit 5) 0 (.lit 2)) (.lit 6) 0 (.lit 0)) (.lit 7) 0 (.lit 2)) (.lit 8) 0 (.lit 2)) (.lit 9) 0 (.lit 0)) (.lit 10) 0 (.lit 0)) (.lit 11) 0 (.lit 0)) (.lit 12) 0 (.lit 0)) (.lit 13) 0 (.lit 0))
def e149 : E := (.upd (.upd (.upd (.upd (.upd (.upd (.upd (.upd (.upd (.upd (.upd (.upd (.upd e141 (.lit 1) 0 (.lit 3)) (.lit 2) 0 (.lit 0)) (.lit 3) 0 (.lit 2)) (.lit 4) 0 (.lit 0)) (.lit 5) 0 (.lit 0)) (.lit 6) 0 (.lit 0)) (.lit 7) 0 (.lit 1)) (.lit 8) 0 (.lit 2)) (.lit 9) 0 (.lit 1)) (.lit 10) 0 (.lit 0)) (.lit 11) 0 (.lit 1)) (.lit 12) 0 (.lit 3)) (.lit 13) 0 (.lit 0))
def e186 : E := (.lit 56327174044082)
def e187 : E := (.lit (-17231794176406323))
def e188 : E := (.lit 215691474609)
def e189 : E := (.lit (-55764601025338))
def e190 : E := (.lit (-252115039034))
def e191 : E := (.lit (-850475063))
def e192 : E := (.lit 220011707066)
def e193 : E := (.lit (-909260091))
def e194 : E := (.lit (-219919530809))
def e195 : E := (.lit (-252148397367))
def e196 : E := (.lit (-56325194363706))
def e197 : E := (.lit (-859061045))
def e198 : E := (.upd (.upd (.upd (.upd (.upd (.upd (.upd (.upd (.upd (.upd (.upd (.upd (.upd e141 (.lit 1) 0 e186) (.lit 2) 0 e187) (.lit 3) 0 e188) (.lit 4) 0 (.lit 909750583)) (.lit 5) 0 e189) (.lit 6) 0 e190) (.lit 7) 0 e191) (.lit 8) 0 e192) (.lit 9) 0 e193) (.lit 10) 0 e194) (.lit 11) 0 e195) (.lit 12) 0 e196) (.lit 13) 0 e197)
def e205 : E := (.lit 14901)
def e207 : E := (.lit (-17))
def e209 : E := (.lit (-250025947444))
def p301 : PE := (.tt (.bin .le (.var 2) (.lit 64)))
def p302 : PE := (.pr 16 [(.var 0), (.var 1), (.var 2), (.var 3)])
def q303 : Tree := (.assert p107 (.assert (.pr 34 [(.var 0), (.lit 0), (.lit 0), (.lit 0), (.lit 0), (.lit 0), (.lit 0), (.lit 0), (.lit 0), (.lit 0)]) .ok))
def p304 : PE := (.tt (.bin .le (.lit 0) (.var 5)))
def p305 : PE := (.tt (.bin .le (.fn 1001 (.var 4) (.lit 0) (.lit 0) (.lit 0)) e1))
def p306 : PE := (.tt (.bin .le (.lit 0) (.var 9)))
def p307 : PE := (.tt (.bin .le (.lit 0) (.var 10)))
def p308 : PE := (.tt (.bin .le (.bin .add (.var 9) (.var 10)) (.var 2)))
def p309 : PE := (.pr 33 [(.var 1), (.var 5), (.var 6), (.var 7), (.var 8), (.var 9), (.var 10), (.var 11)])
def p310 : PE := (.rng .i64 (.var 12))
def e311 : E := (.bin .le (.lit 0) (.var 13))
def p312 : PE := (.tt e311)
def e313 : E := (.bin .le (.lit 0) (.var 14))
def p314 : PE := (.tt e313)
def p315 : PE := (.tt (.bin .le (.bin .add (.var 13) (.var 14)) (.var 2)))
def p316 : PE := (.pr 38 [(.var 1), (.var 9), (.var 10), (.var 11), (.var 12), (.var 13), (.var 14), (.var 15)])
def p317 : PE := (.rng .i64 (.var 16))
def p318 : PE := (.tt (.bin .le (.lit 0) (.var 17)))
def p319 : PE := (.tt (.bin .le (.lit 0) (.var 18)))
def p320 : PE := (.tt (.bin .le (.bin .add (.var 17) (.var 18)) (.var 2)))
def p321 : PE := (.pr 38 [(.var 1), (.var 13), (.var 14), (.var 15), (.var 16), (.var 17), (.var 18), (.var 19)])
def p322 : PE := (.rng .i64 (.var 20))
def p323 : PE := (.tt (.bin .le (.lit 0) (.var 21)))
def p324 : PE := (.tt (.bin .le (.lit 0) (.var 22)))
def p325 : PE := (.tt (.bin .le (.bin .add (.var 21) (.var 22)) (.var 2)))
def p326 : PE := (.pr 38 [(.var 1), (.var 17), (.var 18), (.var 19), (.var 20), (.var 21), (.var 22), (.var 23)])
def e327 : E := (.bin .eq (.var 22) (.lit 0))
def e328 : E := (.bin .eq (.var 23) (.lit 0))
def p329 : PE := (.tt (.bin .le (.lit 0) (.var 25)))
def p330 : PE := (.tt (.bin .le (.lit 0) (.var 26)))
def p331 : PE := (.tt (.bin .le (.bin .add (.var 25) (.var 26)) (.var 2)))
def p332 : PE := (.tt (.bin .le (.fn 1001 (.var 24) (.lit 0) (.lit 0) (.lit 0)) e1))
def p333 : PE := (.pr 33 [(.var 1), (.var 21), (.var 22), (.var 23), (.var 24), (.var 25), (.var 26), (.var 27)])
def e334 : E := (.bin .eq (.var 24) e205)
def p335 : PE := (.rng .i64 (.var 28))
def p336 : PE := (.tt (.bin .le (.lit 0) (.var 29)))
def p337 : PE := (.tt (.bin .le (.lit 0) (.var 30)))
def p338 : PE := (.tt (.bin .le (.bin .add (.var 29) (.var 30)) (.var 2)))
def p339 : PE := (.pr 38 [(.var 1), (.var 25), (.var 26), (.var 27), (.var 28), (.var 29), (.var 30), (.var 31)])
def e340 : E := (.bin .eq (.var 31) (.lit 0))
def e341 : E := (.bin .eq (.var 30) (.lit 0))
def e342 : E := (.bin .eq (.var 24) e209)
def p343 : PE := (.pr 38 [(.var 1), (.var 25), (.var 26), (.lit 1), (.var 28), (.var 29), (.var 30), (.var 31)])
def e344 : E := (.bin .eq (.var 11) (.lit 0))
def e345 : E := (.fn 1001 (.var 12) (.lit 0) (.lit 0) (.lit 0))
def p346 : PE := (.tt (.bin .le e345 e1))
def p347 : PE := (.pr 33 [(.var 1), (.var 9), (.var 10), (.var 11), (.var 12), (.var 13), (.var 14), (.var 15)])
def e348 : E := (.bin .eq (.var 12) e205)
def e349 : E := (.bin .eq (.var 19) (.lit 0))
def e350 : E := (.bin .eq (.var 18) (.lit 0))
def e351 : E := (.bin .eq (.var 12) e209)
def p352 : PE := (.pr 38 [(.var 1), (.var 13), (.var 14), (.lit 1), (.var 16), (.var 17), (.var 18), (.var 19)])
def e353 : E := (.bin .eq (.var 14) (.lit 0))
def e354 : E := (.bin .eq (.var 15) (.lit 0))
def p355 : PE := (.tt (.bin .le (.fn 1001 (.var 16) (.lit 0) (.lit 0) (.lit 0)) e1))
def p356 : PE := (.pr 33 [(.var 1), (.var 13), (.var 14), (.var 15), (.var 16), (.var 17), (.var 18), (.var 19)])
def p357 : PE := (.pr 38 [(.var 1), (.var 17), (.var 18), (.lit 1), (.var 20), (.var 21), (.var 22), (.var 23)])
def p358 : PE := (.tt (.bin .le (.fn 1001 (.var 20) (.lit 0) (.lit 0) (.lit 0)) e1))
def p359 : PE := (.pr 33 [(.var 1), (.var 17), (.var 18), (.var 19), (.var 20), (.var 21), (.var 22), (.var 23)])
def p360 : PE := (.rng .i64 (.var 24))
def p361 : PE := (.pr 38 [(.var 1), (.var 21), (.var 22), (.var 23), (.var 24), (.var 25), (.var 26), (.var 27)])
def e362 : E := (.bin .eq (.var 27) (.lit 0))
def e363 : E := (.bin .eq (.var 26) (.lit 0))
def p364 : PE := (.pr 38 [(.var 1), (.var 21), (.var 22), (.lit 1), (.var 24), (.var 25), (.var 26), (.var 27)])
def p365 : PE := (.rng .i64 (.var 8))
def p366 : PE := (.pr 38 [(.var 1), (.var 5), (.var 6), (.var 7), (.var 8), (.var 9), (.var 10), (.var 11)])
def q367 : Tree := (.branch (.bin .eq e186 (.var 4)) (.havoc false (.havoc false (.havoc false (.havoc false (.assume p306 (.assume p307 (.assume p308 (.assume p87 (.assume p309 (.havoc false (.havoc false (.havoc false (.havoc false (.assume p310 (.assume p312 (.assume p314 (.assume p315 (.assume p316 (.havoc false (.havoc false (.havoc false (.havoc false (.assume p317 (.assume p318 (.assume p319 (.assume p320 (.assume p321 (.havoc false (.havoc false (.havoc false (.havoc false (.assume p322 (.assume p323 (.assume p324 (.assume p325 (.assume p326 (.branch e327 (.branch e328 (.assert p107 (.assert (.pr 34 [(.var 0), (.lit 1), (.var 8), (.lit 0), (.var 12), (.var 16), (.var 20), (.lit 0), (.lit 0), e327]) .ok)) (.assert p107 (.assert (.pr 34 [(.var 0), (.lit 1), (.var 8), (.lit 0), (.var 12), (.var 16), (.var 20), (.lit 0), (.lit 0), (.lit 0)]) .ok))) (.havoc false (.havoc false (.havoc false (.havoc false (.assume p329 (.assume p330 (.assume p331 (.assume p332 (.assume p333 (.branch e334 (.havoc false (.havoc false (.havoc false (.havoc false (.assume p335 (.assume p336 (.assume p337 (.assume p338 (.assume p339 (.branch e340 (.assert p107 (.assert (.pr 34 [(.var 0), (.lit 1), (.var 8), (.lit 0), (.var 12), (.var 16), (.var 20), (.lit 1), (.var 28), e341]) .ok)) (.assert p107 (.assert (.pr 34 [(.var 0), (.lit 1), (.var 8), (.lit 0), (.var 12), (.var 16), (.var 20), (.lit 1), (.var 28), (.lit 0)]) .ok)))))))))))) (.branch e342 (.havoc false (.havoc false (.havoc false (.havoc false (.assume p335 (.assume p336 (.assume p337 (.assume p338 (.assume p339 (.branch e340 (.assert p107 (.assert (.pr 34 [(.var 0), (.lit 1), (.var 8), (.lit 0), (.var 12), (.var 16), (.var 20), (.lit 2), (.var 28), e341]) .ok)) (.assert p107 (.assert (.pr 34 [(.var 0), (.lit 1), (.var 8), (.lit 0), (.var 12), (.var 16), (.var 20), (.lit 2), (.var 28), (.lit 0)]) .ok)))))))))))) (.havoc false (.havoc false (.havoc false (.havoc false (.assume p335 (.assume p336 (.assume p337 (.assume p338 (.assume p343 (.branch e340 (.assert p107 (.assert (.pr 34 [(.var 0), (.lit 1), (.var 8), (.lit 0), (.var 12), (.var 16), (.var 20), (.lit 0), (.var 28), e341]) .ok)) (.assert p107 (.assert (.pr 34 [(.var 0), (.lit 1), (.var 8), (.lit 0), (.var 12), (.var 16), (.var 20), (.lit 0), (.var 28), (.lit 0)]) .ok)))))))))))))))))))))))))))))))))))))))))))))))))))))))))))) (.branch (.bin .eq e187 (.var 4)) (.havoc false (.havoc false (.havoc false (.havoc false (.assume p306 (.assume p307 (.assume p308 (.assume p87 (.assume p309 (.branch e89 (.branch e344 (.assert p107 (.assert (.pr 34 [(.var 0), (.lit 2), (.var 8), (.lit 0), (.lit 0), (.lit 0), (.lit 0), (.lit 0), (.lit 0), e89]) .ok)) (.assert p107 (.assert (.pr 34 [(.var 0), (.lit 2), (.var 8), (.lit 0), (.lit 0), (.lit 0), (.lit 0), (.lit 0), (.lit 0), (.lit 0)]) .ok))) (.havoc false (.havoc false (.havoc false (.havoc false (.assume p312 (.assume p314 (.assume p315 (.assume p346 (.assume p347 (.branch e348 (.havoc false (.havoc false (.havoc false (.havoc false (.assume p317 (.assume p318 (.assume p319 (.assume p320 (.assume p321 (.branch e349 (.assert p107 (.assert (.pr 34 [(.var 0), (.lit 2), (.var 8), (.lit 0), (.lit 0), (.lit 0), (.lit 0), (.lit 1), (.var 16), e350]) .ok)) (.assert p107 (.assert (.pr 34 [(.var 0), (.lit 2), (.var 8), (.lit 0), (.lit 0), (.lit 0), (.lit 0), (.lit 1), (.var 16), (.lit 0)]) .ok)))))))))))) (.branch e351 (.havoc false (.havoc false (.havoc false (.havoc false (.assume p317 (.assume p318 (.assume p319 (.assume p320 (.assume p321 (.branch e349 (.assert p107 (.assert (.pr 34 [(.var 0), (.lit 2), (.var 8), (.lit 0), (.lit 0), (.lit 0), (.lit 0), (.lit 2), (.var 16), e350]) .ok)) (.assert p107 (.assert (.pr 34 [(.var 0), (.lit 2), (.var 8), (.lit 0), (.lit 0), (.lit 0), (.lit 0), (.lit 2), (.var 16), (.lit 0)]) .ok)))))))))))) (.havoc false (.havoc false (.havoc false (.havoc false (.assume p317 (.assume p318 (.assume p319 (.assume p320 (.assume p352 (.branch e349 (.assert p107 (.assert (.pr 34 [(.var 0), (.lit 2), (.var 8), (.lit 0), (.lit 0), (.lit 0), (.lit 0), (.lit 0), (.var 16), e350]) .ok)) (.assert p107 (.assert (.pr 34 [(.var 0), (.lit 2), (.var 8), (.lit 0), (.lit 0), (.lit 0), (.lit 0), (.lit 0), (.var 16), (.lit 0)]) .ok))))))))))))))))))))))))))))))))) (.branch (.bin .eq e188 (.var 4)) (.havoc false (.havoc false (.havoc false (.havoc false (.assume p306 (.assume p307 (.assume p308 (.assume p87 (.assume p309 (.havoc false (.havoc false (.havoc false (.havoc false (.assume p312 (.assume p314 (.assume p315 (.assume p346 (.assume p347 (.havoc false (.havoc false (.havoc false (.havoc false (.assume p317 (.assume p318 (.assume p319 (.assume p320 (.assume p321 (.havoc false (.havoc false (.havoc false (.havoc false (.assume p322 (.assume p323 (.assume p324 (.assume p325 (.assume p326 (.branch e327 (.branch e328 (.assert (.pr 34 [(.var 0), (.lit 3), (.var 8), (.var 12), (.var 16), (.var 20), (.lit 0), (.lit 0), (.lit 0), e327]) .ok) (.assert (.pr 34 [(.var 0), (.lit 3), (.var 8), (.var 12), (.var 16), (.var 20), (.lit 0), (.lit 0), (.lit 0), (.lit 0)]) .ok)) (.havoc false (.havoc false (.havoc false (.havoc false (.assume p329 (.assume p330 (.assume p331 (.assume p332 (.assume p333 (.branch e334 (.havoc false (.havoc false (.havoc false (.havoc false (.assume p335 (.assume p336 (.assume p337 (.assume p338 (.assume p339 (.branch e340 (.assert (.pr 34 [(.var 0), (.lit 3), (.var 8), (.var 12), (.var 16), (.var 20), (.lit 0), (.lit 1), (.var 28), e341]) .ok) (.assert (.pr 34 [(.var 0), (.lit 3), (.var 8), (.var 12), (.var 16), (.var 20), (.lit 0), (.lit 1), (.var 28), (.lit 0)]) .ok))))))))))) (.branch e342 (.havoc false (.havoc false (.havoc false (.havoc false (.assume p335 (.assume p336 (.assume p337 (.assume p338 (.assume p339 (.branch e340 (.assert (.pr 34 [(.var 0), (.lit 3), (.var 8), (.var 12), (.var 16), (.var 20), (.lit 0), (.lit 2), (.var 28), e341]) .ok) (.assert (.pr 34 [(.var 0), (.lit 3), (.var 8), (.var 12), (.var 16), (.var 20), (.lit 0), (.lit 2), (.var 28), (.lit 0)]) .ok))))))))))) (.havoc false (.havoc false (.havoc false (.havoc false (.assume p335 (.assume p336 (.assume p337 (.assume p338 (.assume p343 (.branch e340 (.assert (.pr 34 [(.var 0), (.lit 3), (.var 8), (.var 12), (.var 16), (.var 20), (.lit 0), (.lit 0), (.var 28), e341]) .ok) (.assert (.pr 34 [(.var 0), (.lit 3), (.var 8), (.var 12), (.var 16), (.var 20), (.lit 0), (.lit 0), (.var 28), (.lit 0)]) .ok))))))))))))))))))))))))))))))))))))))))))))))))))))))))))) (.branch (.bin .eq (.lit 909750583) (.var 4)) (.havoc false (.havoc false (.havoc false (.havoc false (.assume p306 (.assume p307 (.assume p308 (.assume p87 (.assume p309 (.havoc false (.havoc false (.havoc false (.havoc false (.assume p312 (.assume p314 (.assume p315 (.assume p346 (.assume p347 (.branch e353 (.branch e354 (.assert (.pr 34 [(.var 0), (.lit 4), (.var 8), (.var 12), (.lit 0), (.lit 0), (.lit 0), (.lit 0), (.lit 0), e353]) .ok) (.assert (.pr 34 [(.var 0), (.lit 4), (.var 8), (.var 12), (.lit 0), (.lit 0), (.lit 0), (.lit 0), (.lit 0), (.lit 0)]) .ok)) (.havoc false (.havoc false (.havoc false (.havoc false (.assume p318 (.assume p319 (.assume p320 (.assume p355 (.assume p356 (.branch (.bin .eq (.var 16) e205) (.havoc false (.havoc false (.havoc false (.havoc false (.assume p322 (.assume p323 (.assume p324 (.assume p325 (.assume p326 (.branch e328 (.assert (.pr 34 [(.var 0), (.lit 4), (.var 8), (.var 12), (.lit 0), (.lit 0), (.lit 0), (.lit 1), (.var 20), e327]) .ok) (.assert (.pr 34 [(.var 0), (.lit 4), (.var 8), (.var 12), (.lit 0), (.lit 0), (.lit 0), (.lit 1), (.var 20), (.lit 0)]) .ok))))))))))) (.branch (.bin .eq (.var 16) e209) (.havoc false (.havoc false (.havoc false (.havoc false (.assume p322 (.assume p323 (.assume p324 (.assume p325 (.assume p326 (.branch e328 (.assert (.pr 34 [(.var 0), (.lit 4), (.var 8), (.var 12), (.lit 0), (.lit 0), (.lit 0), (.lit 2), (.var 20), e327]) .ok) (.assert (.pr 34 [(.var 0), (.lit 4), (.var 8), (.var 12), (.lit 0), (.lit 0), (.lit 0), (.lit 2), (.var 20), (.lit 0)]) .ok))))))))))) (.havoc false (.havoc false (.havoc false (.havoc false (.assume p322 (.assume p323 (.assume p324 (.assume p325 (.assume p357 (.branch e328 (.assert (.pr 34 [(.var 0), (.lit 4), (.var 8), (.var 12), (.lit 0), (.lit 0), (.lit 0), (.lit 0), (.var 20), e327]) .ok) (.assert (.pr 34 [(.var 0), (.lit 4), (.var 8), (.var 12), (.lit 0), (.lit 0), (.lit 0), (.lit 0), (.var 20), (.lit 0)]) .ok))))))))))))))))))))))))))))))))))))))))) (.branch (.bin .eq e189 (.var 4)) (.havoc false (.havoc false (.havoc false (.havoc false (.assume p306 (.assume p307 (.assume p308 (.assume p87 (.assume p309 (.havoc false (.havoc false (.havoc false (.havoc false (.assume p312 (.assume p314 (.assume p315 (.assume p346 (.assume p347 (.branch e353 (.branch e354 (.assert (.pr 34 [(.var 0), (.lit 5), (.var 8), (.var 12), (.lit 0), (.lit 0), (.lit 0), (.lit 0), (.lit 0), e353]) .ok) (.assert (.pr 34 [(.var 0), (.lit 5), (.var 8), (.var 12), (.lit 0), (.lit 0), (.lit 0), (.lit 0), (.lit 0), (.lit 0)]) .ok)) (.havoc false (.havoc false (.havoc false (.havoc false (.assume p318 (.assume p319 (.assume p320 (.assume p355 (.assume p356 (.branch (.bin .eq (.var 16) e205) (.havoc false (.havoc false (.havoc false (.havoc false (.assume p322 (.assume p323 (.assume p324 (.assume p325 (.assume p326 (.branch e328 (.assert (.pr 34 [(.var 0), (.lit 5), (.var 8), (.var 12), (.lit 0), (.lit 0), (.lit 0), (.lit 1), (.var 20), e327]) .ok) (.assert (.pr 34 [(.var 0), (.lit 5), (.var 8), (.var 12), (.lit 0), (.lit 0), (.lit 0), (.lit 1), (.var 20), (.lit 0)]) .ok))))))))))) (.branch (.bin .eq (.var 16) e209) (.havoc false (.havoc false (.havoc false (.havoc false (.assume p322 (.assume p323 (.assume p324 (.assume p325 (.assume p326 (.branch e328 (.assert (.pr 34 [(.var 0), (.lit 5), (.var 8), (.var 12), (.lit 0), (.lit 0), (.lit 0), (.lit 2), (.var 20), e327]) .ok) (.assert (.pr 34 [(.var 0), (.lit 5), (.var 8), (.var 12), (.lit 0), (.lit 0), (.lit 0), (.lit 2), (.var 20), (.lit 0)]) .ok))))))))))) (.havoc false (.havoc false (.havoc false (.havoc false (.assume p322 (.assume p323 (.assume p324 (.assume p325 (.assume p357 (.branch e328 (.assert (.pr 34 [(.var 0), (.lit 5), (.var 8), (.var 12), (.lit 0), (.lit 0), (.lit 0), (.lit 0), (.var 20), e327]) .ok) (.assert (.pr 34 [(.var 0), (.lit 5), (.var 8), (.var 12), (.lit 0), (.lit 0), (.lit 0), (.lit 0), (.var 20), (.lit 0)]) .ok))))))))))))))))))))))))))))))))))))))))) (.branch (.bin .eq e190 (.var 4)) (.havoc false (.havoc false (.havoc false (.havoc false (.assume p306 (.assume p307 (.assume p308 (.assume p87 (.assume p309 (.branch e89 (.branch e344 (.assert p107 (.assert (.pr 34 [(.var 0), (.lit 6), (.var 8), (.lit 0), (.lit 0), (.lit 0), (.lit 0), (.lit 0), (.lit 0), e89]) .ok)) (.assert p107 (.assert (.pr 34 [(.var 0), (.lit 6), (.var 8), (.lit 0), (.lit 0), (.lit 0), (.lit 0), (.lit 0), (.lit 0), (.lit 0)]) .ok))) (.havoc false (.havoc false (.havoc false (.havoc false (.assume p312 (.assume p314 (.assume p315 (.assume p346 (.assume p347 (.branch e348 (.havoc false (.havoc false (.havoc false (.havoc false (.assume p317 (.assume p318 (.assume p319 (.assume p320 (.assume p321 (.branch e349 (.assert p107 (.assert (.pr 34 [(.var 0), (.lit 6), (.var 8), (.lit 0), (.lit 0), (.lit 0), (.lit 0), (.lit 1), (.var 16), e350]) .ok)) (.assert p107 (.assert (.pr 34 [(.var 0), (.lit 6), (.var 8), (.lit 0), (.lit 0), (.lit 0), (.lit 0), (.lit 1), (.var 16), (.lit 0)]) .ok)))))))))))) (.branch e351 (.havoc false (.havoc false (.havoc false (.havoc false (.assume p317 (.assume p318 (.assume p319 (.assume p320 (.assume p321 (.branch e349 (.assert p107 (.assert (.pr 34 [(.var 0), (.lit 6), (.var 8), (.lit 0), (.lit 0), (.lit 0), (.lit 0), (.lit 2), (.var 16), e350]) .ok)) (.assert p107 (.assert (.pr 34 [(.var 0), (.lit 6), (.var 8), (.lit 0), (.lit 0), (.lit 0), (.lit 0), (.lit 2), (.var 16), (.lit 0)]) .ok)))))))))))) (.havoc false (.havoc false (.havoc false (.havoc false (.assume p317 (.assume p318 (.assume p319 (.assume p320 (.assume p352 (.branch e349 (.assert p107 (.assert (.pr 34 [(.var 0), (.lit 6), (.var 8), (.lit 0), (.lit 0), (.lit 0), (.lit 0), (.lit 0), (.var 16), e350]) .ok)) (.assert p107 (.assert (.pr 34 [(.var 0), (.lit 6), (.var 8), (.lit 0), (.lit 0), (.lit 0), (.lit 0), (.lit 0), (.var 16), (.lit 0)]) .ok))))))))))))))))))))))))))))))))) (.branch (.bin .eq e191 (.var 4)) (.havoc false (.havoc false (.havoc false (.havoc false (.assume p306 (.assume p307 (.assume p308 (.assume p87 (.assume p309 (.havoc false (.havoc false (.havoc false (.havoc false (.assume p312 (.assume p314 (.assume p315 (.assume p346 (.assume p347 (.havoc false (.havoc false (.havoc false (.havoc false (.assume p317 (.assume p318 (.assume p319 (.assume p320 (.assume p321 (.branch e350 (.branch e349 (.assert (.pr 34 [(.var 0), (.lit 7), (.var 8), (.var 12), (.var 16), (.lit 0), (.lit 0), (.lit 0), (.lit 0), e350]) .ok) (.assert (.pr 34 [(.var 0), (.lit 7), (.var 8), (.var 12), (.var 16), (.lit 0), (.lit 0), (.lit 0), (.lit 0), (.lit 0)]) .ok)) (.havoc false (.havoc false (.havoc false (.havoc false (.assume p323 (.assume p324 (.assume p325 (.assume p358 (.assume p359 (.branch (.bin .eq (.var 20) e205) (.havoc false (.havoc false (.havoc false (.havoc false (.assume p360 (.assume p329 (.assume p330 (.assume p331 (.assume p361 (.branch e362 (.assert (.pr 34 [(.var 0), (.lit 7), (.var 8), (.var 12), (.var 16), (.lit 0), (.lit 0), (.lit 1), (.var 24), e363]) .ok) (.assert (.pr 34 [(.var 0), (.lit 7), (.var 8), (.var 12), (.var 16), (.lit 0), (.lit 0), (.lit 1), (.var 24), (.lit 0)]) .ok))))))))))) (.branch (.bin .eq (.var 20) e209) (.havoc false (.havoc false (.havoc false (.havoc false (.assume p360 (.assume p329 (.assume p330 (.assume p331 (.assume p361 (.branch e362 (.assert (.pr 34 [(.var 0), (.lit 7), (.var 8), (.var 12), (.var 16), (.lit 0), (.lit 0), (.lit 2), (.var 24), e363]) .ok) (.assert (.pr 34 [(.var 0), (.lit 7), (.var 8), (.var 12), (.var 16), (.lit 0), (.lit 0), (.lit 2), (.var 24), (.lit 0)]) .ok))))))))))) (.havoc false (.havoc false (.havoc false (.havoc false (.assume p360 (.assume p329 (.assume p330 (.assume p331 (.assume p364 (.branch e362 (.assert (.pr 34 [(.var 0), (.lit 7), (.var 8), (.var 12), (.var 16), (.lit 0), (.lit 0), (.lit 0), (.var 24), e363]) .ok) (.assert (.pr 34 [(.var 0), (.lit 7), (.var 8), (.var 12), (.var 16), (.lit 0), (.lit 0), (.lit 0), (.var 24), (.lit 0)]) .ok)))))))))))))))))))))))))))))))))))))))))))))))))) (.branch (.bin .eq e192 (.var 4)) (.havoc false (.havoc false (.havoc false (.havoc false (.assume p306 (.assume p307 (.assume p308 (.assume p87 (.assume p309 (.havoc false (.havoc false (.havoc false (.havoc false (.assume p312 (.assume p314 (.assume p315 (.assume p346 (.assume p347 (.havoc false (.havoc false (.havoc false (.havoc false (.assume p317 (.assume p318 (.assume p319 (.assume p320 (.assume p321 (.havoc false (.havoc false (.havoc false (.havoc false (.assume p322 (.assume p323 (.assume p324 (.assume p325 (.assume p326 (.branch e327 (.branch e328 (.assert (.pr 34 [(.var 0), (.lit 8), (.var 8), (.var 12), (.var 16), (.var 20), (.lit 0), (.lit 0), (.lit 0), e327]) .ok) (.assert (.pr 34 [(.var 0), (.lit 8), (.var 8), (.var 12), (.var 16), (.var 20), (.lit 0), (.lit 0), (.lit 0), (.lit 0)]) .ok)) (.havoc false (.havoc false (.havoc false (.havoc false (.assume p329 (.assume p330 (.assume p331 (.assume p332 (.assume p333 (.branch e334 (.havoc false (.havoc false (.havoc false (.havoc false (.assume p335 (.assume p336 (.assume p337 (.assume p338 (.assume p339 (.branch e340 (.assert (.pr 34 [(.var 0), (.lit 8), (.var 8), (.var 12), (.var 16), (.var 20), (.lit 0), (.lit 1), (.var 28), e341]) .ok) (.assert (.pr 34 [(.var 0), (.lit 8), (.var 8), (.var 12), (.var 16), (.var 20), (.lit 0), (.lit 1), (.var 28), (.lit 0)]) .ok))))))))))) (.branch e342 (.havoc false (.havoc false (.havoc false (.havoc false (.assume p335 (.assume p336 (.assume p337 (.assume p338 (.assume p339 (.branch e340 (.assert (.pr 34 [(.var 0), (.lit 8), (.var 8), (.var 12), (.var 16), (.var 20), (.lit 0), (.lit 2), (.var 28), e341]) .ok) (.assert (.pr 34 [(.var 0), (.lit 8), (.var 8), (.var 12), (.var 16), (.var 20), (.lit 0), (.lit 2), (.var 28), (.lit 0)]) .ok))))))))))) (.havoc false (.havoc false (.havoc false (.havoc false (.assume p335 (.assume p336 (.assume p337 (.assume p338 (.assume p343 (.branch e340 (.assert (.pr 34 [(.var 0), (.lit 8), (.var 8), (.var 12), (.var 16), (.var 20), (.lit 0), (.lit 0), (.var 28), e341]) .ok) (.assert (.pr 34 [(.var 0), (.lit 8), (.var 8), (.var 12), (.var 16), (.var 20), (.lit 0), (.lit 0), (.var 28), (.lit 0)]) .ok))))))))))))))))))))))))))))))))))))))))))))))))))))))))))) (.branch (.bin .eq e193 (.var 4)) (.havoc false (.havoc false (.havoc false (.havoc false (.assume p365 (.assume p306 (.assume p307 (.assume p308 (.assume p366 (.branch e89 (.branch e344 (.assert p107 (.assert (.pr 34 [(.var 0), (.lit 9), (.lit 0), (.lit 0), (.var 8), (.lit 0), (.lit 0), (.lit 0), (.lit 0), e89]) .ok)) (.assert p107 (.assert (.pr 34 [(.var 0), (.lit 9), (.lit 0), (.lit 0), (.var 8), (.lit 0), (.lit 0), (.lit 0), (.lit 0), (.lit 0)]) .ok))) (.havoc false (.havoc false (.havoc false (.havoc false (.assume p312 (.assume p314 (.assume p315 (.assume p346 (.assume p347 (.branch e348 (.havoc false (.havoc false (.havoc false (.havoc false (.assume p317 (.assume p318 (.assume p319 (.assume p320 (.assume p321 (.branch e349 (.assert p107 (.assert (.pr 34 [(.var 0), (.lit 9), (.lit 0), (.lit 0), (.var 8), (.lit 0), (.lit 0), (.lit 1), (.var 16), e350]) .ok)) (.assert p107 (.assert (.pr 34 [(.var 0), (.lit 9), (.lit 0), (.lit 0), (.var 8), (.lit 0), (.lit 0), (.lit 1), (.var 16), (.lit 0)]) .ok)))))))))))) (.branch e351 (.havoc false (.havoc false (.havoc false (.havoc false (.assume p317 (.assume p318 (.assume p319 (.assume p320 (.assume p321 (.branch e349 (.assert p107 (.assert (.pr 34 [(.var 0), (.lit 9), (.lit 0), (.lit 0), (.var 8), (.lit 0), (.lit 0), (.lit 2), (.var 16), e350]) .ok)) (.assert p107 (.assert (.pr 34 [(.var 0), (.lit 9), (.lit 0), (.lit 0), (.var 8), (.lit 0), (.lit 0), (.lit 2), (.var 16), (.lit 0)]) .ok)))))))))))) (.havoc false (.havoc false (.havoc false (.havoc false (.assume p317 (.assume p318 (.assume p319 (.assume p320 (.assume p352 (.branch e349 (.assert p107 (.assert (.pr 34 [(.var 0), (.lit 9), (.lit 0), (.lit 0), (.var 8), (.lit 0), (.lit 0), (.lit 0), (.var 16), e350]) .ok)) (.assert p107 (.assert (.pr 34 [(.var 0), (.lit 9), (.lit 0), (.lit 0), (.var 8), (.lit 0), (.lit 0), (.lit 0), (.var 16), (.lit 0)]) .ok))))))))))))))))))))))))))))))))) (.branch (.bin .eq e194 (.var 4)) (.branch e137 (.branch e138 (.assert p107 (.assert (.pr 34 [(.var 0), (.lit 10), (.lit 0), (.lit 0), (.lit 0), (.lit 0), (.lit 0), (.lit 0), (.lit 0), e137]) .ok)) (.assert p107 (.assert (.pr 34 [(.var 0), (.lit 10), (.lit 0), (.lit 0), (.lit 0), (.lit 0), (.lit 0), (.lit 0), (.lit 0), (.lit 0)]) .ok))) (.havoc false (.havoc false (.havoc false (.havoc false (.assume p306 (.assume p307 (.assume p308 (.assume p87 (.assume p309 (.branch (.bin .eq (.var 8) e205) (.havoc false (.havoc false (.havoc false (.havoc false (.assume p310 (.assume p312 (.assume p314 (.assume p315 (.assume p316 (.branch e354 (.assert p107 (.assert (.pr 34 [(.var 0), (.lit 10), (.lit 0), (.lit 0), (.lit 0), (.lit 0), (.lit 0), (.lit 1), (.var 12), e353]) .ok)) (.assert p107 (.assert (.pr 34 [(.var 0), (.lit 10), (.lit 0), (.lit 0), (.lit 0), (.lit 0), (.lit 0), (.lit 1), (.var 12), (.lit 0)]) .ok)))))))))))) (.branch (.bin .eq (.var 8) e209) (.havoc false (.havoc false (.havoc false (.havoc false (.assume p310 (.assume p312 (.assume p314 (.assume p315 (.assume p316 (.branch e354 (.assert p107 (.assert (.pr 34 [(.var 0), (.lit 10), (.lit 0), (.lit 0), (.lit 0), (.lit 0), (.lit 0), (.lit 2), (.var 12), e353]) .ok)) (.assert p107 (.assert (.pr 34 [(.var 0), (.lit 10), (.lit 0), (.lit 0), (.lit 0), (.lit 0), (.lit 0), (.lit 2), (.var 12), (.lit 0)]) .ok)))))))))))) (.havoc false (.havoc false (.havoc false (.havoc false (.assume p310 (.assume p312 (.assume p314 (.assume p315 (.assume (.pr 38 [(.var 1), (.var 9), (.var 10), (.lit 1), (.var 12), (.var 13), (.var 14), (.var 15)]) (.branch e354 (.assert p107 (.assert (.pr 34 [(.var 0), (.lit 10), (.lit 0), (.lit 0), (.lit 0), (.lit 0), (.lit 0), (.lit 0), (.var 12), e353]) .ok)) (.assert p107 (.assert (.pr 34 [(.var 0), (.lit 10), (.lit 0), (.lit 0), (.lit 0), (.lit 0), (.lit 0), (.lit 0), (.var 12), (.lit 0)]) .ok)))))))))))))))))))))))) (.branch (.bin .eq e195 (.var 4)) (.havoc false (.havoc false (.havoc false (.havoc false (.assume p365 (.assume p306 (.assume p307 (.assume p308 (.assume p366 (.branch e89 (.branch e344 (.assert p107 (.assert (.pr 34 [(.var 0), (.lit 11), (.lit 0), (.lit 0), (.var 8), (.lit 0), (.lit 0), (.lit 0), (.lit 0), e89]) .ok)) (.assert p107 (.assert (.pr 34 [(.var 0), (.lit 11), (.lit 0), (.lit 0), (.var 8), (.lit 0), (.lit 0), (.lit 0), (.lit 0), (.lit 0)]) .ok))) (.havoc false (.havoc false (.havoc false (.havoc false (.assume p312 (.assume p314 (.assume p315 (.assume p346 (.assume p347 (.branch e348 (.havoc false (.havoc false (.havoc false (.havoc false (.assume p317 (.assume p318 (.assume p319 (.assume p320 (.assume p321 (.branch e349 (.assert p107 (.assert (.pr 34 [(.var 0), (.lit 11), (.lit 0), (.lit 0), (.var 8), (.lit 0), (.lit 0), (.lit 1), (.var 16), e350]) .ok)) (.assert p107 (.assert (.pr 34 [(.var 0), (.lit 11), (.lit 0), (.lit 0), (.var 8), (.lit 0), (.lit 0), (.lit 1), (.var 16), (.lit 0)]) .ok)))))))))))) (.branch e351 (.havoc false (.havoc false (.havoc false (.havoc false (.assume p317 (.assume p318 (.assume p319 (.assume p320 (.assume p321 (.branch e349 (.assert p107 (.assert (.pr 34 [(.var 0), (.lit 11), (.lit 0), (.lit 0), (.var 8), (.lit 0), (.lit 0), (.lit 2), (.var 16), e350]) .ok)) (.assert p107 (.assert (.pr 34 [(.var 0), (.lit 11), (.lit 0), (.lit 0), (.var 8), (.lit 0), (.lit 0), (.lit 2), (.var 16), (.lit 0)]) .ok)))))))))))) (.havoc false (.havoc false (.havoc false (.havoc false (.assume p317 (.assume p318 (.assume p319 (.assume p320 (.assume p352 (.branch e349 (.assert p107 (.assert (.pr 34 [(.var 0), (.lit 11), (.lit 0), (.lit 0), (.var 8), (.lit 0), (.lit 0), (.lit 0), (.var 16), e350]) .ok)) (.assert p107 (.assert (.pr 34 [(.var 0), (.lit 11), (.lit 0), (.lit 0), (.var 8), (.lit 0), (.lit 0), (.lit 0), (.var 16), (.lit 0)]) .ok))))))))))))))))))))))))))))))))) (.branch (.bin .eq e196 (.var 4)) (.havoc false (.havoc false (.havoc false (.havoc false (.assume p365 (.assume p306 (.assume p307 (.assume p308 (.assume p366 (.havoc false (.havoc false (.havoc false (.havoc false (.assume p310 (.assume p312 (.assume p314 (.assume p315 (.assume p316 (.havoc false (.havoc false (.havoc false (.havoc false (.assume p317 (.assume p318 (.assume p319 (.assume p320 (.assume p321 (.branch e350 (.branch e349 (.assert p107 (.assert (.pr 34 [(.var 0), (.lit 12), (.lit 0), (.lit 0), (.var 8), (.var 12), (.var 16), (.lit 0), (.lit 0), e350]) .ok)) (.assert p107 (.assert (.pr 34 [(.var 0), (.lit 12), (.lit 0), (.lit 0), (.var 8), (.var 12), (.var 16), (.lit 0), (.lit 0), (.lit 0)]) .ok))) (.havoc false (.havoc false (.havoc false (.havoc false (.assume p323 (.assume p324 (.assume p325 (.assume p358 (.assume p359 (.branch (.bin .eq (.var 20) e205) (.havoc false (.havoc false (.havoc false (.havoc false (.assume p360 (.assume p329 (.assume p330 (.assume p331 (.assume p361 (.branch e362 (.assert p107 (.assert (.pr 34 [(.var 0), (.lit 12), (.lit 0), (.lit 0), (.var 8), (.var 12), (.var 16), (.lit 1), (.var 24), e363]) .ok)) (.assert p107 (.assert (.pr 34 [(.var 0), (.lit 12), (.lit 0), (.lit 0), (.var 8), (.var 12), (.var 16), (.lit 1), (.var 24), (.lit 0)]) .ok)))))))))))) (.branch (.bin .eq (.var 20) e209) (.havoc false (.havoc false (.havoc false (.havoc false (.assume p360 (.assume p329 (.assume p330 (.assume p331 (.assume p361 (.branch e362 (.assert p107 (.assert (.pr 34 [(.var 0), (.lit 12), (.lit 0), (.lit 0), (.var 8), (.var 12), (.var 16), (.lit 2), (.var 24), e363]) .ok)) (.assert p107 (.assert (.pr 34 [(.var 0), (.lit 12), (.lit 0), (.lit 0), (.var 8), (.var 12), (.var 16), (.lit 2), (.var 24), (.lit 0)]) .ok)))))))))))) (.havoc false (.havoc false (.havoc false (.havoc false (.assume p360 (.assume p329 (.assume p330 (.assume p331 (.assume p364 (.branch e362 (.assert p107 (.assert (.pr 34 [(.var 0), (.lit 12), (.lit 0), (.lit 0), (.var 8), (.var 12), (.var 16), (.lit 0), (.var 24), e363]) .ok)) (.assert p107 (.assert (.pr 34 [(.var 0), (.lit 12), (.lit 0), (.lit 0), (.var 8), (.var 12), (.var 16), (.lit 0), (.var 24), (.lit 0)]) .ok))))))))))))))))))))))))))))))))))))))))))))))))))) (.branch (.bin .eq e197 (.var 4)) (.havoc false (.havoc false (.havoc false (.havoc false (.assume p306 (.assume p307 (.assume p308 (.assume p87 (.assume p309 (.branch e89 (.branch e344 (.assert p107 (.assert (.pr 34 [(.var 0), (.lit 13), (.var 8), (.lit 0), (.lit 0), (.lit 0), (.lit 0), (.lit 0), (.lit 0), e89]) .ok)) (.assert p107 (.assert (.pr 34 [(.var 0), (.lit 13), (.var 8), (.lit 0), (.lit 0), (.lit 0), (.lit 0), (.lit 0), (.lit 0), (.lit 0)]) .ok))) (.havoc false (.havoc false (.havoc false (.havoc false (.assume p312 (.assume p314 (.assume p315 (.assume p346 (.assume p347 (.branch e348 (.havoc false (.havoc false (.havoc false (.havoc false (.assume p317 (.assume p318 (.assume p319 (.assume p320 (.assume p321 (.branch e349 (.assert p107 (.assert (.pr 34 [(.var 0), (.lit 13), (.var 8), (.lit 0), (.lit 0), (.lit 0), (.lit 0), (.lit 1), (.var 16), e350]) .ok)) (.assert p107 (.assert (.pr 34 [(.var 0), (.lit 13), (.var 8), (.lit 0), (.lit 0), (.lit 0), (.lit 0), (.lit 1), (.var 16), (.lit 0)]) .ok)))))))))))) (.branch e351 (.havoc false (.havoc false (.havoc false (.havoc false (.assume p317 (.assume p318 (.assume p319 (.assume p320 (.assume p321 (.branch e349 (.assert p107 (.assert (.pr 34 [(.var 0), (.lit 13), (.var 8), (.lit 0), (.lit 0), (.lit 0), (.lit 0), (.lit 2), (.var 16), e350]) .ok)) (.assert p107 (.assert (.pr 34 [(.var 0), (.lit 13), (.var 8), (.lit 0), (.lit 0), (.lit 0), (.lit 0), (.lit 2), (.var 16), (.lit 0)]) .ok)))))))))))) (.havoc false (.havoc false (.havoc false (.havoc false (.assume p317 (.assume p318 (.assume p319 (.assume p320 (.assume p352 (.branch e349 (.assert p107 (.assert (.pr 34 [(.var 0), (.lit 13), (.var 8), (.lit 0), (.lit 0), (.lit 0), (.lit 0), (.lit 0), (.var 16), e350]) .ok)) (.assert p107 (.assert (.pr 34 [(.var 0), (.lit 13), (.var 8), (.lit 0), (.lit 0), (.lit 0), (.lit 0), (.lit 0), (.var 16), (.lit 0)]) .ok))))))))))))))))))))))))))))))))) (.assert p107 (.assert (.pr 34 [(.var 0), e72, (.lit 0), (.lit 0), (.lit 0), (.lit 0), (.lit 0), (.lit 0), (.lit 0), (.lit 0)]) .ok)))))))))))))))
def e368 : E := (.bin .eq e94 (.lit 0))
def p369 : PE := (.rng .i64 (.var 1))
def e372 : E := (.fn 3 (.var 0) (.lit 0) (.lit 0) (.lit 0))
def e411 : E := (.bin .eq e137 (.lit 0))
def e417 : E := (.bin .eq (.var 5) (.lit 0))
def e430 : E := (.bin .eq e417 (.lit 0))
def p445 : PE := (.pr 23 [.zt, (.lit 0)])
def p448 : PE := (.pr 23 [(.var 1), (.var 2)])
def e450 : E := (.sel (.var 1) (.lit 0) 0)
def p488 : PE := (.rng .i64 (.var 10))
def p489 : PE := (.rng .i64 (.var 11))
def e527 : E := (.bin .eq (.var 13) (.lit 0))
def e530 : E := (.bin .add (.var 7) (.lit 1))
def e586 : E := (.lit 500)
def e587 : E := (.lit 100)
def p589 : PE := (.rng .i64 (.var 15))
def q591 : Tree := (.fail 100)
def e592 : E := (.fn 1001 (.var 27) (.lit 0) (.lit 0) (.lit 0))
def p593 : PE := (.rng .i64 (.var 29))
def tInt : Tree := (.assume p2 (.havoc false (.havoc false (.assume (.same (.var 1) e3) (.assume (.same (.var 2) e4) (.assert (.tt (.bin .le (.lit 0) e5)) (.assert (.pr 73 [e3, (.lit 0)]) (.havoc false (.assume p6 (.assume (.tt (.bin .le (.var 3) e5)) (.assume (.pr 73 [e3, (.var 3)]) (.branch (.bin .lt (.var 3) e5) (.branch (.bin .le (.lit 48) e7) (.branch (.bin .eq (.bin .le e7 (.lit 57)) (.lit 0)) q8 (.assert (.rng .i64 e9) (.assert p10 (.assert (.tt (.bin .le e9 e5)) (.assert (.pr 73 [e3, e9]) (.assert (.tt (.bin .le (.lit 0) (.bin .sub e5 e9))) (.assert (.tt (.bin .lt (.bin .sub e5 e9) (.bin .sub e5 (.var 3)))) .ok))))))) q8) (.branch (.bin .eq e3 (.lit 0)) q8 (.assert (.tt (.bin .lt (.lit 0) e5)) (.branch (.bin .eq (.fn 1004 e3 (.lit 0) (.lit 0) (.lit 0)) (.lit 48)) (.branch (.bin .lt (.lit 1) e5) q8 (.branch e4 q8 q15)) q15)))))))))))))))
def tName : Tree := (.assume p2 (.assert p16 (.assert (.pr 40 [(.var 0), (.lit 0)]) (.havoc false (.assume (.tt e17) (.assume p18 (.assume (.pr 40 [(.var 0), (.var 1)]) (.branch e19 (.branch (.bin .le (.lit 97) e21) (.branch (.bin .eq (.bin .le e21 (.lit 122)) (.lit 0)) q33 q32) q33) (.branch (.bin .le (.lit 1) e0) (.assert (.same (.bin .le e0 (.lit 16)) e22) .ok) q23)))))))))
def tPrn : Tree := (.assume p2 (.assert p16 (.assert (.pr 42 [(.var 0), (.var 1), (.lit 0)]) (.havoc false (.assume (.tt e34) (.assume p35 (.assume (.pr 42 [(.var 0), (.var 1), (.var 2)]) (.branch e36 (.branch (.bin .lt e37 (.var 1)) q38 (.branch (.bin .lt (.lit 126) e37) q38 (.assert p40 (.assert p41 (.assert p42 (.assert (.pr 42 [(.var 0), (.var 1), e39]) q44)))))) (.assert (.pr 41 [(.var 0), (.var 1), (.lit 1)]) .ok)))))))))
def tUnqP : Tree := (.assume (.tt (.bin .le e0 e45)) (.branch (.bin .lt e0 (.lit 2)) q47 (.assert (.tt e48) (.branch e50 q47 (.assert p52 (.assert p53 (.assert p54 (.branch e56 q47 (.assert (.tt (.bin .le (.lit 1) e51)) (.assert (.tt (.bin .le e51 e0)) (.assert (.tt (.bin .le (.fn 1001 (.fn 1003 (.var 0) (.lit 1) e51 (.lit 0)) (.lit 0) (.lit 0) (.lit 0)) (.lit 10000))) (.havoc false (.assume (.tt (.bin .le e57 (.lit 10000))) (.branch e59 (.assert p60 (.havoc false (.assume p61 (.branch e62 q47 (.havoc false (.assume (.tt (.bin .le e63 (.lit 20000))) (.assert (.tt (.bin .le (.bin .add (.lit 1) e63) e11)) (.assert (.tt (.bin .le (.bin .add (.fn 1001 e64 (.lit 0) (.lit 0) (.lit 0)) (.lit 1)) e11)) (.branch (.bin .ne (.fn 1002 e64 (.lit (-18)) (.lit 0) (.lit 0)) (.var 0)) q47 .ok))))))))) q47))))))))))))))
def tRgt : Tree := (.assume p60 (.branch (.var 0) (.branch e59 (.havoc false (.assume p61 q65)) q66) (.branch e67 (.branch e59 (.havoc false (.assume (.pr 41 [(.var 1), (.lit 33), (.var 2)]) (.branch (.var 2) (.havoc false (.assume (.same (.var 3) e68) (.assert (.pr 15 [(.var 0), (.var 1), (.bin .eq e68 (.lit 0))]) .ok))) q66))) q66) q66)))
def tIxF : Tree := (.assume p2 (.assert p16 (.assert (.pr 36 [(.var 0), (.var 1), (.lit 0), (.var 1)]) (.havoc false (.havoc false (.assume (.tt e34) (.assume p35 (.assume (.pr 36 [(.var 0), (.var 1), (.var 2), (.var 3)]) (.branch e36 (.branch (.bin .eq e69 (.lit 34)) (.branch (.bin .eq e69 (.lit 32)) (.branch (.bin .eq (.bin .ne e71 (.lit 0)) (.lit 1)) (.assert (.tt (.bin .le e72 (.var 2))) (.assert (.tt (.bin .lt (.var 2) e73)) (.assert (.pr 35 [(.var 0), (.var 1), (.var 2), e70]) .ok))) q76) q76) (.branch (.bin .eq e69 (.lit 32)) (.branch (.bin .eq (.bin .ne e70 (.lit 0)) (.lit 1)) (.assert (.tt (.bin .le e72 (.var 2))) (.assert (.tt (.bin .lt (.var 2) e73)) (.assert (.pr 35 [(.var 0), (.var 1), (.var 2), (.var 3)]) .ok))) q77) q77)) (.assert (.tt (.bin .lt e72 e73)) (.assert (.pr 35 [(.var 0), (.var 1), e72, (.var 3)]) .ok)))))))))))
def tSplP : Tree := (.assume p2 (.branch (.bin .lt (.lit 4096) e0) (.assert p78 q79) (.branch (.bin .eq (.var 0) (.lit 0)) (.assert p78 (.assert (.pr 16 [(.var 0), .zt, (.lit 0), (.lit 0)]) .ok)) (.assert (.tt (.bin .le e0 e0)) (.assert p78 (.assert (.pr 37 [(.var 0), (.var 0), (.lit 0), .zt, (.lit 0)]) (.havoc false (.havoc false (.havoc true (.havoc false (.assume p80 (.assume (.tt (.bin .le (.bin .add (.var 4) e57) e0)) (.assume (.pr 22 [(.var 3), (.var 4)]) (.assume (.pr 37 [(.var 0), (.var 1), (.var 2), (.var 3), (.var 4)]) (.assert p60 (.havoc false (.havoc false (.assume p81 (.assume (.tt (.bin .lt (.var 5) (.bin .add e57 (.lit 1)))) (.assume (.pr 35 [(.var 1), (.var 2), (.var 5), (.var 6)]) (.branch (.bin .lt (.var 5) (.lit 0)) (.havoc false (.assume (.same (.var 7) e82) (.branch e82 (.assert (.tt (.bin .le e57 e45)) (.havoc false (.havoc false (.assume p84 (.branch (.bin .eq e85 (.lit 0)) q86 (.assert p87 (.havoc false (.assume p88 (.branch e89 q86 (.assert p91 (.branch (.bin .lt (.lit 64) e90) q79 (.assert p92 (.assert (.pr 22 [e93, e90]) (.assert (.pr 16 [(.var 0), e93, e90, (.lit 0)]) .ok)))))))))))))) (.havoc false (.assume (.pr 15 [(.lit 0), (.var 1), (.var 8)]) (.branch e94 q86 (.assert p91 (.branch (.bin .lt (.lit 64) e90) q79 (.assert p92 (.assert (.pr 22 [(.upd e95 (.var 4) 1 (.var 1)), e90]) (.assert (.pr 16 [(.var 0), (.upd e95 (.var 4) 1 (.var 1)), e90, (.lit 0)]) .ok))))))))))) (.assert (.tt (.bin .le (.var 5) e57)) (.havoc false (.assume (.same (.var 7) e97) (.branch e97 (.assert (.tt (.bin .le e98 e45)) (.havoc false (.havoc false (.assume p84 (.branch (.bin .eq e85 (.lit 0)) q86 (.assert p87 (.havoc false (.assume p88 (.branch e89 q86 (.assert p91 (.assert p100 (.assert p101 (.assert (.tt (.bin .le e99 e57)) (.assert (.tt (.bin .le e57 e57)) (.assert p92 (.assert p104 (.assert (.pr 22 [e93, e90]) (.assert (.pr 37 [(.var 0), e102, (.var 6), e93, e90]) q105)))))))))))))))))) (.assert (.tt (.bin .le e98 e1)) (.havoc false (.assume (.pr 15 [(.lit 0), e96, (.var 8)]) (.branch e94 q86 (.assert p91 (.assert p100 (.assert p101 (.assert (.tt (.bin .le e99 e57)) (.assert (.tt (.bin .le e57 e57)) (.assert p92 (.assert p104 (.assert (.pr 22 [(.upd e95 (.var 4) 1 e96), e90]) (.assert (.pr 37 [(.var 0), e102, (.var 6), (.upd e95 (.var 4) 1 e96), e90]) q105))))))))))))))))))))))))))))))))))))))
def tFld : Tree := (.assume (.tt e17) (.assume (.tt e34) (.assume p106 (.assume (.pr 22 [(.var 0), (.var 4)]) (.branch e62 q108 (.assert p109 (.assert (.tt (.bin .lt (.var 1) (.var 4))) (.branch (.sel (.var 0) (.var 1) 0) q108 (.assert p110 (.assert p111 (.assert p29 (.assert p113 (.assert (.tt (.bin .le (.bin .add e27 e112) (.var 4))) (.assert (.tt (.bin .le (.fn 1001 (.sel (.var 0) (.var 1) 1) (.lit 0) (.lit 0) (.lit 0)) e1)) (.assert (.pr 33 [(.var 0), (.var 1), (.var 2), (.var 3), (.sel (.var 0) (.var 1) 1), e27, e112, (.var 3)]) .ok)))))))))))))))
def tNum : Tree := (.assume (.tt e17) (.assume (.tt e34) (.assume p106 (.assume (.pr 22 [(.var 0), (.var 4)]) (.havoc false (.havoc false (.havoc false (.havoc false (.assume p114 (.assume p115 (.assume (.tt (.bin .le (.bin .add (.var 6) (.var 7)) (.var 4))) (.assume p116 (.assume (.pr 33 [(.var 0), (.var 1), (.var 2), (.var 3), (.var 5), (.var 6), (.var 7), (.var 8)]) (.havoc false (.havoc false (.assume p117 (.assume (.pr 10 [(.var 5), (.var 9), (.var 10)]) (.branch (.var 8) (.assert (.pr 38 [(.var 0), (.var 1), (.var 2), (.var 3), (.var 9), (.var 6), (.var 7), (.lit 1)]) .ok) (.assert (.pr 38 [(.var 0), (.var 1), (.var 2), (.var 3), (.var 9), (.var 6), (.var 7), (.bin .eq e89 (.lit 0))]) .ok)))))))))))))))))))
def tAny : Tree := (.assume (.tt e34) (.assume p6 (.assume p118 (.assume p119 (.assert (.pr 83 [(.var 0), (.var 2), (.lit 0)]) (.havoc false (.assume p80 (.assume p120 (.assume (.pr 83 [(.var 0), (.var 2), (.var 4)]) (.branch (.bin .lt (.var 4) (.var 3)) (.assert (.tt (.bin .le (.lit 0) e121)) (.assert (.tt (.bin .lt e121 (.var 1))) (.branch (.bin .eq (.bin .eq e122 (.lit 0)) (.lit 0)) (.assert (.pr 81 [(.var 0), (.var 2), (.var 3), (.bin .le (.lit 0) (.var 4))]) .ok) (.assert p123 (.assert p92 (.assert (.tt (.bin .le e90 (.var 3))) (.assert (.pr 83 [(.var 0), (.var 2), e90]) q124))))))) (.assert (.pr 81 [(.var 0), (.var 2), (.var 3), (.lit 0)]) .ok)))))))))))
def tBig : Tree := (.assume (.tt e34) (.assume p6 (.assume p118 (.assume p119 (.assert (.pr 84 [(.var 0), (.var 2), (.lit 0)]) (.havoc false (.assume p80 (.assume p120 (.assume (.pr 84 [(.var 0), (.var 2), (.var 4)]) (.branch (.bin .lt (.var 4) (.var 3)) (.assert (.tt (.bin .le (.lit 0) e121)) (.assert (.tt (.bin .lt e121 (.var 1))) (.branch (.bin .lt e122 e125) q126 (.branch (.bin .lt e127 e122) q126 (.assert p123 (.assert p92 (.assert (.tt (.bin .le e90 (.var 3))) (.assert (.pr 84 [(.var 0), (.var 2), e90]) q124)))))))) (.assert (.pr 82 [(.var 0), (.var 2), (.var 3), (.lit 0)]) .ok)))))))))))
def tStp : Tree := (.assume p2 (.havoc true (.havoc false (.havoc false (.assume (.tt e34) (.assume p301 (.assume (.pr 22 [(.var 1), (.var 2)]) (.assume p302 (.branch e71 q303 (.assert p111 (.havoc false (.havoc false (.havoc false (.havoc false (.assume p304 (.assume p114 (.assume (.tt (.bin .le (.bin .add (.var 5) (.var 6)) (.var 2))) (.assume p305 (.assume (.pr 33 [(.var 1), (.lit 0), (.var 2), (.lit 0), (.var 4), (.var 5), (.var 6), (.var 7)]) (.branch (.bin .eq (.lit 0) (.var 4)) q367 q367))))))))))))))))))))
end Go.Tt
namespace Go.Tt
open Go Go.Sx
set_option maxRecDepth 100000
def p594 : PE := (.tt (.bin .lt (.var 2) (.var 1)))
def p595 : PE := (.pr 45 [(.var 0), (.var 1)])
def e596 : E := (.sel (.var 0) (.var 2) 0)
def e597 : E := (.sel (.var 0) (.var 2) 1)
def e598 : E := (.sel (.var 0) (.var 2) 2)
def e599 : E := (.sel (.var 0) (.var 2) 3)
def e600 : E := (.sel (.var 0) (.var 2) 4)
def e601 : E := (.sel (.var 0) (.var 2) 5)
def e602 : E := (.sel (.var 0) (.var 2) 6)
def e603 : E := (.sel (.var 0) (.var 2) 7)
def q604 : Tree := (.assert (.pr 31 [e596, e597, e598, e599, e600, e601, e602, e603, (.lit 2)]) .ok)
def p605 : PE := (.tt (.bin .le (.lit 0) e596))
def e606 : E := (.sel e142 e596 0)
def e607 : E := (.sel e144 e596 0)
def e608 : E := (.bin .eq e607 (.lit 0))
def e609 : E := (.bin .ne e598 (.lit 0))
def p610 : PE := (.tt (.bin .le (.fn 1001 e598 (.lit 0) (.lit 0) (.lit 0)) e1))
def e611 : E := (.fn 20 e598 (.lit 0) (.lit 0) (.lit 0))
def e612 : E := (.bin .eq e611 (.lit 0))
def e613 : E := (.sel e149 e596 0)
def p614 : PE := (.tt (.bin .le (.lit 0) e613))
def p615 : PE := (.tt (.bin .le e613 (.lit 3)))
def e616 : E := (.bin .sub (.lit 3) e613)
def p617 : PE := (.tt (.bin .le (.lit 0) e616))
def p618 : PE := (.tt (.bin .le (.bin .add e613 e616) (.lit 3)))
def p619 : PE := (.tt (.bin .le e616 (.lit 1000)))
def e620 : E := (.upd (.upd (.upd .zt (.lit 0) 0 e599) (.lit 1) 0 e600) (.lit 2) 0 e601)
def q621 : Tree := (.assert (.pr 31 [e596, e597, e598, e599, e600, e601, e602, e603, (.lit 7)]) .ok)
def e622 : E := (.bin .eq e602 (.lit 1))
def e623 : E := (.bin .eq e602 (.lit 2))
def q624 : Tree := (.assert (.pr 31 [e596, e597, e598, e599, e600, e601, e602, e603, (.lit 0)]) .ok)
def q625 : Tree := (.branch e623 (.branch (.bin .lt e603 (.lit 1)) q621 (.branch (.bin .lt (.lit 999) e603) q621 q624)) q624)
def q626 : Tree := (.branch e622 (.branch (.bin .lt e603 e125) q621 (.branch (.bin .lt e127 e603) q621 q625)) q625)
def p627 : PE := (.pr 81 [e620, e613, e616, (.var 4)])
def q628 : Tree := (.assert (.pr 31 [e596, e597, e598, e599, e600, e601, e602, e603, (.lit 6)]) .ok)
def q629 : Tree := (.assert p614 (.assert p615 (.assert p617 (.assert p618 (.assert p619 (.havoc false (.assume p627 (.branch (.var 4) q604 q628))))))))
def q630 : Tree := (.assert p614 (.assert p615 (.assert p617 (.assert p618 (.assert p619 (.havoc false (.assume p627 (.branch (.var 4) q604 (.havoc false (.assume (.pr 82 [e620, (.lit 0), (.lit 3), (.var 5)]) (.branch (.var 5) q621 q626)))))))))))
def e631 : E := (.fn 20 e597 (.lit 0) (.lit 0) (.lit 0))
def p632 : PE := (.pr 81 [e620, e613, e616, (.var 5)])
def q633 : Tree := (.assert p614 (.assert p615 (.assert p617 (.assert p618 (.assert p619 (.havoc false (.assume p632 (.branch (.var 5) q604 q628))))))))
def q634 : Tree := (.assert p605 (.branch (.bin .eq e606 (.lit 0)) (.branch (.bin .ne e597 (.lit 0)) (.branch e608 (.branch e609 q604 q604) (.assert p610 (.havoc false (.assume (.same (.var 3) e611) (.branch e612 q604 q604))))) (.branch e608 (.branch e609 q604 (.assert p614 (.assert p615 (.assert p617 (.assert p618 (.assert p619 (.havoc false (.assume (.pr 81 [e620, e613, e616, (.var 3)]) (.branch (.var 3) q604 (.havoc false (.assume (.pr 82 [e620, (.lit 0), (.lit 3), (.var 4)]) (.branch (.var 4) q621 q626)))))))))))) (.assert p610 (.havoc false (.assume (.same (.var 3) e611) (.branch e612 q629 q630)))))) (.assert (.tt (.bin .le (.fn 1001 e597 (.lit 0) (.lit 0) (.lit 0)) e1)) (.havoc false (.assume (.same (.var 3) e631) (.branch (.bin .eq e631 (.lit 0)) (.branch e608 (.branch e609 q604 q629) (.assert p610 (.havoc false (.assume (.same (.var 4) e611) (.branch e612 q633 q633))))) (.branch e608 (.branch e609 q604 q630) (.assert p610 (.havoc false (.assume (.same (.var 4) e611) (.branch e612 q633 (.assert p614 (.assert p615 (.assert p617 (.assert p618 (.assert p619 (.havoc false (.assume p632 (.branch (.var 5) q604 (.havoc false (.assume (.pr 82 [e620, (.lit 0), (.lit 3), (.var 6)]) (.branch (.var 6) q621 q626))))))))))))))))))))))
def p635 : PE := (.tt (.bin .lt e596 (.lit 14)))
def e636 : E := (.bin .lt (.lit 0) e613)
def p637 : PE := (.rng .i64 e599)
def e638 : E := (.fn 3 e599 (.lit 0) (.lit 0) (.lit 0))
def p639 : PE := (.same (.var 3) e638)
def e640 : E := (.bin .lt (.lit 1) e613)
def p641 : PE := (.rng .i64 e600)
def e642 : E := (.fn 3 e600 (.lit 0) (.lit 0) (.lit 0))
def p643 : PE := (.same (.var 4) e642)
def e644 : E := (.bin .lt (.lit 2) e613)
def p645 : PE := (.rng .i64 e601)
def e646 : E := (.fn 3 e601 (.lit 0) (.lit 0) (.lit 0))
def p647 : PE := (.same (.var 5) e646)
def p648 : PE := (.rng .i64 e603)
def e649 : E := (.fn 3 e603 (.lit 0) (.lit 0) (.lit 0))
def p650 : PE := (.same (.var 6) e649)
def e651 : E := (.upd .zt (.lit 0) 0 (.sel e198 e596 0))
def e652 : E := (.upd e651 (.lit 1) 0 e597)
def e653 : E := (.upd e652 (.lit 2) 0 e598)
def e654 : E := (.upd e653 (.lit 3) 0 e638)
def e655 : E := (.upd e654 (.lit 4) 0 e642)
def e656 : E := (.upd e655 (.lit 5) 0 e646)
def e657 : E := (.upd (.upd e656 (.lit 6) 0 e205) (.lit 7) 0 e649)
def e658 : E := (.fn 5 e657 (.lit 8) e207 (.lit 0))
def e659 : E := (.upd (.upd e656 (.lit 6) 0 e209) (.lit 7) 0 e649)
def e660 : E := (.fn 5 e659 (.lit 8) e207 (.lit 0))
def e661 : E := (.fn 5 e656 (.lit 6) e207 (.lit 0))
def p662 : PE := (.same (.var 5) e649)
def e663 : E := (.upd (.upd e655 (.lit 5) 0 e205) (.lit 6) 0 e649)
def e664 : E := (.fn 5 e663 (.lit 7) e207 (.lit 0))
def e665 : E := (.upd (.upd e655 (.lit 5) 0 e209) (.lit 6) 0 e649)
def e666 : E := (.fn 5 e665 (.lit 7) e207 (.lit 0))
def e667 : E := (.fn 5 e655 (.lit 5) e207 (.lit 0))
def p668 : PE := (.same (.var 4) e649)
def e669 : E := (.upd (.upd e654 (.lit 4) 0 e205) (.lit 5) 0 e649)
def e670 : E := (.fn 5 e669 (.lit 6) e207 (.lit 0))
def e671 : E := (.upd (.upd e654 (.lit 4) 0 e209) (.lit 5) 0 e649)
def e672 : E := (.fn 5 e671 (.lit 6) e207 (.lit 0))
def e673 : E := (.fn 5 e654 (.lit 4) e207 (.lit 0))
def p674 : PE := (.same (.var 3) e649)
def e675 : E := (.upd (.upd e653 (.lit 3) 0 e205) (.lit 4) 0 e649)
def e676 : E := (.fn 5 e675 (.lit 5) e207 (.lit 0))
def e677 : E := (.upd (.upd e653 (.lit 3) 0 e209) (.lit 4) 0 e649)
def e678 : E := (.fn 5 e677 (.lit 5) e207 (.lit 0))
def e679 : E := (.fn 5 e653 (.lit 3) e207 (.lit 0))
def e680 : E := (.upd e652 (.lit 2) 0 e638)
def e681 : E := (.upd e680 (.lit 3) 0 e642)
def e682 : E := (.upd e681 (.lit 4) 0 e646)
def e683 : E := (.upd (.upd e682 (.lit 5) 0 e205) (.lit 6) 0 e649)
def e684 : E := (.fn 5 e683 (.lit 7) e207 (.lit 0))
def e685 : E := (.upd (.upd e682 (.lit 5) 0 e209) (.lit 6) 0 e649)
def e686 : E := (.fn 5 e685 (.lit 7) e207 (.lit 0))
def e687 : E := (.fn 5 e682 (.lit 5) e207 (.lit 0))
def e688 : E := (.upd (.upd e681 (.lit 4) 0 e205) (.lit 5) 0 e649)
def e689 : E := (.fn 5 e688 (.lit 6) e207 (.lit 0))
def e690 : E := (.upd (.upd e681 (.lit 4) 0 e209) (.lit 5) 0 e649)
def e691 : E := (.fn 5 e690 (.lit 6) e207 (.lit 0))
def e692 : E := (.fn 5 e681 (.lit 4) e207 (.lit 0))
def e693 : E := (.upd (.upd e680 (.lit 3) 0 e205) (.lit 4) 0 e649)
def e694 : E := (.fn 5 e693 (.lit 5) e207 (.lit 0))
def e695 : E := (.upd (.upd e680 (.lit 3) 0 e209) (.lit 4) 0 e649)
def e696 : E := (.fn 5 e695 (.lit 5) e207 (.lit 0))
def e697 : E := (.fn 5 e680 (.lit 3) e207 (.lit 0))
def e698 : E := (.upd (.upd e652 (.lit 2) 0 e205) (.lit 3) 0 e649)
def e699 : E := (.fn 5 e698 (.lit 4) e207 (.lit 0))
def e700 : E := (.upd (.upd e652 (.lit 2) 0 e209) (.lit 3) 0 e649)
def e701 : E := (.fn 5 e700 (.lit 4) e207 (.lit 0))
def e702 : E := (.fn 5 e652 (.lit 2) e207 (.lit 0))
def e703 : E := (.upd e651 (.lit 1) 0 e598)
def e704 : E := (.upd e703 (.lit 2) 0 e638)
def e705 : E := (.upd e704 (.lit 3) 0 e642)
def e706 : E := (.upd e705 (.lit 4) 0 e646)
def e707 : E := (.upd (.upd e706 (.lit 5) 0 e205) (.lit 6) 0 e649)
def e708 : E := (.fn 5 e707 (.lit 7) e207 (.lit 0))
def e709 : E := (.upd (.upd e706 (.lit 5) 0 e209) (.lit 6) 0 e649)
def e710 : E := (.fn 5 e709 (.lit 7) e207 (.lit 0))
def e711 : E := (.fn 5 e706 (.lit 5) e207 (.lit 0))
def e712 : E := (.upd (.upd e705 (.lit 4) 0 e205) (.lit 5) 0 e649)
def e713 : E := (.fn 5 e712 (.lit 6) e207 (.lit 0))
def e714 : E := (.upd (.upd e705 (.lit 4) 0 e209) (.lit 5) 0 e649)
def e715 : E := (.fn 5 e714 (.lit 6) e207 (.lit 0))
def e716 : E := (.fn 5 e705 (.lit 4) e207 (.lit 0))
def e717 : E := (.upd (.upd e704 (.lit 3) 0 e205) (.lit 4) 0 e649)
def e718 : E := (.fn 5 e717 (.lit 5) e207 (.lit 0))
def e719 : E := (.upd (.upd e704 (.lit 3) 0 e209) (.lit 4) 0 e649)
def e720 : E := (.fn 5 e719 (.lit 5) e207 (.lit 0))
def e721 : E := (.fn 5 e704 (.lit 3) e207 (.lit 0))
def e722 : E := (.upd (.upd e703 (.lit 2) 0 e205) (.lit 3) 0 e649)
def e723 : E := (.fn 5 e722 (.lit 4) e207 (.lit 0))
def e724 : E := (.upd (.upd e703 (.lit 2) 0 e209) (.lit 3) 0 e649)
def e725 : E := (.fn 5 e724 (.lit 4) e207 (.lit 0))
def e726 : E := (.fn 5 e703 (.lit 2) e207 (.lit 0))
def e727 : E := (.upd e651 (.lit 1) 0 e638)
def e728 : E := (.upd e727 (.lit 2) 0 e642)
def e729 : E := (.upd e728 (.lit 3) 0 e646)
def e730 : E := (.upd (.upd e729 (.lit 4) 0 e205) (.lit 5) 0 e649)
def e731 : E := (.fn 5 e730 (.lit 6) e207 (.lit 0))
def e732 : E := (.upd (.upd e729 (.lit 4) 0 e209) (.lit 5) 0 e649)
def e733 : E := (.fn 5 e732 (.lit 6) e207 (.lit 0))
def e734 : E := (.fn 5 e729 (.lit 4) e207 (.lit 0))
def e735 : E := (.upd (.upd e728 (.lit 3) 0 e205) (.lit 4) 0 e649)
def e736 : E := (.fn 5 e735 (.lit 5) e207 (.lit 0))
def e737 : E := (.upd (.upd e728 (.lit 3) 0 e209) (.lit 4) 0 e649)
def e738 : E := (.fn 5 e737 (.lit 5) e207 (.lit 0))
def e739 : E := (.fn 5 e728 (.lit 3) e207 (.lit 0))
def e740 : E := (.upd (.upd e727 (.lit 2) 0 e205) (.lit 3) 0 e649)
def e741 : E := (.fn 5 e740 (.lit 4) e207 (.lit 0))
def e742 : E := (.upd (.upd e727 (.lit 2) 0 e209) (.lit 3) 0 e649)
def e743 : E := (.fn 5 e742 (.lit 4) e207 (.lit 0))
def e744 : E := (.fn 5 e727 (.lit 2) e207 (.lit 0))
def e745 : E := (.upd (.upd e651 (.lit 1) 0 e205) (.lit 2) 0 e649)
def e746 : E := (.fn 5 e745 (.lit 3) e207 (.lit 0))
def e747 : E := (.upd (.upd e651 (.lit 1) 0 e209) (.lit 2) 0 e649)
def e748 : E := (.fn 5 e747 (.lit 3) e207 (.lit 0))
def e749 : E := (.fn 5 e651 (.lit 1) e207 (.lit 0))
def e750 : E := (.bin .le (.lit 0) (.fn 1008 (.var 3) (.var 4) (.upd (.upd .zt (.lit 0) 0 (.lit 1)) (.lit 0) 1 e597) (.lit 3)))
def q751 : Tree := (.assert (.pr 46 [(.var 3), (.var 4), e596, e597, e598, e599, e600, e601, e602, e603, (.lit 8)]) .ok)
def e752 : E := (.bin .eq e608 (.lit 0))
def e753 : E := (.bin .eq e607 (.lit 1))
def e754 : E := (.upd (.upd (.upd (.upd (.upd (.upd (.upd (.upd (.upd (.upd (.upd e143 (.lit 3) 0 (.lit 3)) (.lit 4) 0 (.lit 4)) (.lit 5) 0 (.lit 4)) (.lit 6) 0 (.lit 0)) (.lit 7) 0 (.lit 3)) (.lit 8) 0 (.lit 3)) (.lit 9) 0 (.lit 0)) (.lit 10) 0 (.lit 0)) (.lit 11) 0 (.lit 0)) (.lit 12) 0 (.lit 0)) (.lit 13) 0 (.lit 0))
def e755 : E := (.bin .le (.lit 0) (.fn 1008 (.var 3) (.var 4) (.upd (.upd (.upd .zt (.lit 0) 0 (.sel e754 e596 0)) (.lit 0) 1 e597) (.lit 0) 2 e598) (.lit 3)))
def q756 : Tree := (.assert (.pr 46 [(.var 3), (.var 4), e596, e597, e598, e599, e600, e601, e602, e603, (.lit 4)]) .ok)
def q757 : Tree := (.assert (.pr 46 [(.var 3), (.var 4), e596, e597, e598, e599, e600, e601, e602, e603, (.lit 0)]) .ok)
def q758 : Tree := (.branch (.bin .eq e607 (.lit 2)) q756 q757)
def q759 : Tree := (.branch (.bin .eq e607 (.lit 2)) (.branch (.bin .eq e755 (.lit 0)) q756 q757) q757)
def q760 : Tree := (.branch e752 (.branch e753 (.branch e755 q751 q758) q759) q757)
def e761 : E := (.bin .eq e750 (.lit 0))
def p762 : PE := (.tt (.bin .le (.var 4) e11))
def p763 : PE := (.pr 45 [(.var 3), (.var 4)])
def p764 : PE := (.rng .i64 (.var 2))
def q765 : Tree := (.assert (.pr 44 [(.var 0), (.var 1), (.var 2), (.var 3), (.var 4), e72, (.lit 3)]) .ok)
def e766 : E := (.bin .le (.var 0) (.lit 4096))
def e767 : E := (.bin .eq (.bin .le (.var 2) (.lit 1024)) (.lit 0))
def q768 : Tree := (.assert (.pr 44 [(.var 0), (.var 1), (.var 2), (.var 3), (.var 4), e72, (.lit 7)]) .ok)
def p769 : PE := (.tt (.bin .le (.var 5) (.var 4)))
def e770 : E := (.bin .lt (.var 5) (.var 4))
def e771 : E := (.sel (.var 3) (.var 5) 0)
def e772 : E := (.sel (.var 3) (.var 5) 1)
def e773 : E := (.sel (.var 3) (.var 5) 2)
def e774 : E := (.sel (.var 3) (.var 5) 3)
def e775 : E := (.sel (.var 3) (.var 5) 4)
def e776 : E := (.sel (.var 3) (.var 5) 5)
def e777 : E := (.sel (.var 3) (.var 5) 6)
def e778 : E := (.sel (.var 3) (.var 5) 7)
def p779 : PE := (.tt (.bin .le (.var 5) e586))
def e780 : E := (.bin .eq (.bin .eq (.sel e144 e771 0) (.lit 0)) (.lit 0))
def e781 : E := (.bin .eq (.sel e144 e771 0) (.lit 1))
def p782 : PE := (.tt (.bin .le e99 (.var 4)))
def e783 : E := (.upd (.upd .zt (.lit 0) 0 (.lit 1)) (.lit 0) 1 e772)
def e784 : E := (.fn 1009 (.var 6) (.var 7) e783 (.lit 3))
def e785 : E := (.fn 1000 (.bin .le (.lit 0) (.fn 1008 (.var 6) (.var 7) e783 (.lit 3))) (.var 7) e530 (.lit 0))
def e786 : E := (.upd (.upd (.upd .zt (.lit 0) 0 (.sel e754 e771 0)) (.lit 0) 1 e772) (.lit 0) 2 e773)
def e787 : E := (.fn 1000 (.bin .le (.lit 0) (.fn 1008 e784 e785 e786 (.lit 3))) e785 (.bin .add e785 (.lit 1)) (.lit 0))
def q788 : Tree := (.assert (.tt (.bin .le (.lit 0) (.bin .sub (.var 4) e99))) (.assert (.tt (.bin .lt (.bin .sub (.var 4) e99) (.bin .sub (.var 4) (.var 5)))) .ok))
def q789 : Tree := (.assert p100 (.assert p101 (.assert p782 (.assert (.tt (.bin .le (.lit 0) e785)) (.assert (.pr 47 [(.var 3), e99, e784, e785]) q788)))))
def e790 : E := (.fn 1000 (.bin .le (.lit 0) (.fn 1008 (.var 6) (.var 7) e786 (.lit 3))) (.var 7) e530 (.lit 0))
def q791 : Tree := (.assert p100 (.assert p101 (.assert p782 (.assert (.pr 47 [(.var 3), e99, (.var 6), (.var 7)]) q788))))
def q792 : Tree := (.branch e780 (.branch e781 (.assert p100 (.assert p101 (.assert p782 (.assert (.tt (.bin .le (.lit 0) e790)) (.assert (.pr 47 [(.var 3), e99, (.fn 1009 (.var 6) (.var 7) e786 (.lit 3)), e790]) q788))))) q791) q791)
def q793 : Tree := (.assert (.pr 44 [(.var 0), (.var 1), (.var 2), (.var 3), (.var 4), (.lit 0), (.lit 0)]) .ok)
def p794 : PE := (.pr 44 [(.var 0), (.var 1), (.var 2), (.var 3), (.var 4), (.var 5), (.var 6)])
def e795 : E := (.bin .add (.lit 400) (.bin .mul (.lit 210) (.var 4)))
def q796 : Tree := (.assert (.tt (.bin .le e46 e795)) (.assert (.pr 63 [(.var 0), (.var 1), (.var 2), (.var 3), (.var 4), (.lit 0), (.var 6)]) .ok))
def e797 : E := (.fn 3 (.var 1) (.lit 0) (.lit 0) (.lit 0))
def e798 : E := (.fn 3 (.var 2) (.lit 0) (.lit 0) (.lit 0))
def e799 : E := (.lit 16241110417912119)
def e800 : E := (.upd (.upd (.upd (.upd .zt (.lit 0) 0 e799) (.lit 1) 0 e372) (.lit 2) 0 e797) (.lit 3) 0 e798)
def e801 : E := (.fn 5 e800 (.lit 4) e207 (.lit 0))
def e802 : E := (.bin .add (.var 11) (.lit 1))
def e803 : E := (.bin .add (.var 13) (.lit 1))
def e804 : E := (.bin .add (.var 11) (.lit 2))
def e805 : E := (.lit (-6))
def e806 : E := (.fn 5 (.var 12) (.var 13) e805 (.lit 0))
def e807 : E := (.fn 1002 e806 e805 (.lit 0) (.lit 0))
def q808 : Tree := (.assert (.pr 61 [(.var 0), .zt, (.lit 0), (.lit 3)]) .ok)
def q809 : Tree := (.assert p445 q808)
def e810 : E := (.fn 13 (.var 0) e805 (.lit 0) (.lit 0))
def q811 : Tree := (.assert p445 (.assert (.pr 61 [(.var 0), .zt, (.lit 0), (.lit 6)]) .ok))
def e812 : E := (.fn 14 (.var 0) (.lit 10) (.lit 0) (.lit 0))
def e813 : E := (.fn 1003 (.var 0) (.lit 0) e51 (.lit 0))
def e814 : E := (.fn 6 e813 e805 (.lit 0) (.lit 0))
def e815 : E := (.fn 7 e813 e805 (.lit 0) (.lit 0))
def p816 : PE := (.pr 61 [(.var 0), (.var 1), (.var 2), (.var 3)])
def p817 : PE := (.pr 45 [.zt, (.lit 0)])
def q818 : Tree := (.assert p817 (.assert (.pr 66 [(.var 0), (.lit 0), (.lit 0), (.lit 0), .zt, (.lit 0), (.lit 0), (.var 3)]) .ok))
def q819 : Tree := (.assert p817 (.assert (.pr 66 [(.var 0), (.lit 0), (.lit 0), (.lit 0), .zt, (.lit 0), (.lit 1), (.lit 6)]) .ok))
def p820 : PE := (.tt (.bin .le (.fn 1001 e450 (.lit 0) (.lit 0) (.lit 0)) e1))
def p821 : PE := (.tt (.bin .le (.lit 0) (.var 8)))
def e822 : E := (.fn 1001 (.var 7) (.lit 0) (.lit 0) (.lit 0))
def p823 : PE := (.tt (.bin .le (.lit 0) (.var 12)))
def p824 : PE := (.pr 72 [(.var 1), .zt, (.lit 0)])
def e825 : E := (.bin .add (.lit 1) (.var 23))
def e826 : E := (.bin .add (.var 25) (.lit 1))
def e827 : E := (.bin .add (.var 23) (.lit 1))
def e828 : E := (.upd (.upd (.upd (.upd (.upd (.upd (.upd (.upd (.var 24) (.var 25) 0 (.var 26)) (.var 25) 1 (.var 27)) (.var 25) 2 (.var 28)) (.var 25) 3 (.var 29)) (.var 25) 4 (.var 30)) (.var 25) 5 (.var 31)) (.var 25) 6 (.var 32)) (.var 25) 7 (.var 33))
def q829 : Tree := (.assert (.pr 67 [(.var 0), (.var 1), (.var 2), (.var 3), (.var 4), (.var 5), (.var 6), (.var 7), (.var 8), (.var 9), (.lit 0)]) .ok)
def p830 : PE := (.tt (.bin .le (.var 10) (.var 4)))
def e831 : E := (.sel (.var 3) (.var 10) 0)
def e832 : E := (.sel (.var 3) (.var 10) 1)
def e833 : E := (.sel (.var 3) (.var 10) 2)
def e834 : E := (.sel (.var 3) (.var 10) 3)
def e835 : E := (.sel (.var 3) (.var 10) 4)
def e836 : E := (.sel (.var 3) (.var 10) 5)
def e837 : E := (.sel (.var 3) (.var 10) 6)
def e838 : E := (.sel (.var 3) (.var 10) 7)
def e839 : E := (.bin .add (.var 10) (.lit 1))
def q840 : Tree := (.assert (.tt (.bin .le (.lit 0) (.bin .sub (.var 4) e839))) (.assert (.tt (.bin .lt (.bin .sub (.var 4) e839) (.bin .sub (.var 4) (.var 10)))) .ok))
def q841 : Tree := (.assert (.pr 69 [(.var 3), (.var 4), (.lit 1)]) .ok)
def e842 : E := (.fn 1001 e772 (.lit 0) (.lit 0) (.lit 0))
def e843 : E := (.fn 1001 e773 (.lit 0) (.lit 0) (.lit 0))
def q844 : Tree := (.branch (.bin .lt (.lit 600) (.var 4)) q841 (.assert (.pr 70 [(.var 3), (.lit 0)]) (.havoc false (.assume p304 (.assume p769 (.assume (.pr 70 [(.var 3), (.var 5)]) (.branch e770 (.branch (.bin .lt e587 e842) q841 (.branch (.bin .lt e587 e843) q841 (.assert p100 (.assert p101 (.assert p782 (.assert (.pr 70 [(.var 3), e99]) q788)))))) (.assert (.pr 69 [(.var 3), (.var 4), (.lit 0)]) .ok))))))))
def e845 : E := (.fn 1001 (.var 6) (.lit 0) (.lit 0) (.lit 0))
def tShpR : Tree := (.assume (.tt e34) (.assume p594 (.assume p595 (.branch (.bin .lt e596 (.lit 1)) q604 (.branch (.bin .le (.lit 14) e596) q604 (.branch (.bin .lt e602 (.lit 0)) q604 (.branch (.bin .lt (.lit 2) e602) q604 (.branch (.bin .eq e602 (.lit 0)) (.branch (.bin .eq (.bin .eq e603 (.lit 0)) (.lit 0)) q604 q634) q634))))))))
def tWrR : Tree := (.assume (.tt e34) (.assume p594 (.assume p595 (.assume (.pr 43 [e596, e597, e598, e599, e600, e601, e602, e603]) (.assert p605 (.assert p635 (.branch (.bin .ne e597 (.lit 0)) (.branch e609 (.assert p614 (.assert p615 (.branch e636 (.assert p637 (.havoc false (.assume p639 (.branch e640 (.assert p641 (.havoc false (.assume p643 (.branch e644 (.assert p645 (.havoc false (.assume p647 (.branch e622 (.assert p648 (.havoc false (.assume p650 (.assert (.pr 30 [e657, (.lit 8), e207]) (.havoc false (.assume (.same (.var 7) e658) (.assert (.pr 32 [e596, e597, e598, e599, e600, e601, e602, e603, e658]) (.assert (.tt (.bin .le (.fn 1001 e658 (.lit 0) (.lit 0) (.lit 0)) e58)) .ok)))))))) (.branch e623 (.assert p648 (.havoc false (.assume p650 (.assert (.pr 30 [e659, (.lit 8), e207]) (.havoc false (.assume (.same (.var 7) e660) (.assert (.pr 32 [e596, e597, e598, e599, e600, e601, e602, e603, e660]) (.assert (.tt (.bin .le (.fn 1001 e660 (.lit 0) (.lit 0) (.lit 0)) e58)) .ok)))))))) (.assert (.pr 30 [e656, (.lit 6), e207]) (.havoc false (.assume (.same (.var 6) e661) (.assert (.pr 32 [e596, e597, e598, e599, e600, e601, e602, e603, e661]) (.assert (.tt (.bin .le (.fn 1001 e661 (.lit 0) (.lit 0) (.lit 0)) e58)) .ok)))))))))) (.branch e622 (.assert p648 (.havoc false (.assume p662 (.assert (.pr 30 [e663, (.lit 7), e207]) (.havoc false (.assume (.same (.var 6) e664) (.assert (.pr 32 [e596, e597, e598, e599, e600, e601, e602, e603, e664]) (.assert (.tt (.bin .le (.fn 1001 e664 (.lit 0) (.lit 0) (.lit 0)) e58)) .ok)))))))) (.branch e623 (.assert p648 (.havoc false (.assume p662 (.assert (.pr 30 [e665, (.lit 7), e207]) (.havoc false (.assume (.same (.var 6) e666) (.assert (.pr 32 [e596, e597, e598, e599, e600, e601, e602, e603, e666]) (.assert (.tt (.bin .le (.fn 1001 e666 (.lit 0) (.lit 0) (.lit 0)) e58)) .ok)))))))) (.assert (.pr 30 [e655, (.lit 5), e207]) (.havoc false (.assume (.same (.var 5) e667) (.assert (.pr 32 [e596, e597, e598, e599, e600, e601, e602, e603, e667]) (.assert (.tt (.bin .le (.fn 1001 e667 (.lit 0) (.lit 0) (.lit 0)) e58)) .ok))))))))))) (.branch e622 (.assert p648 (.havoc false (.assume p668 (.assert (.pr 30 [e669, (.lit 6), e207]) (.havoc false (.assume (.same (.var 5) e670) (.assert (.pr 32 [e596, e597, e598, e599, e600, e601, e602, e603, e670]) (.assert (.tt (.bin .le (.fn 1001 e670 (.lit 0) (.lit 0) (.lit 0)) e58)) .ok)))))))) (.branch e623 (.assert p648 (.havoc false (.assume p668 (.assert (.pr 30 [e671, (.lit 6), e207]) (.havoc false (.assume (.same (.var 5) e672) (.assert (.pr 32 [e596, e597, e598, e599, e600, e601, e602, e603, e672]) (.assert (.tt (.bin .le (.fn 1001 e672 (.lit 0) (.lit 0) (.lit 0)) e58)) .ok)))))))) (.assert (.pr 30 [e654, (.lit 4), e207]) (.havoc false (.assume (.same (.var 4) e673) (.assert (.pr 32 [e596, e597, e598, e599, e600, e601, e602, e603, e673]) (.assert (.tt (.bin .le (.fn 1001 e673 (.lit 0) (.lit 0) (.lit 0)) e58)) .ok))))))))))) (.branch e622 (.assert p648 (.havoc false (.assume p674 (.assert (.pr 30 [e675, (.lit 5), e207]) (.havoc false (.assume (.same (.var 4) e676) (.assert (.pr 32 [e596, e597, e598, e599, e600, e601, e602, e603, e676]) (.assert (.tt (.bin .le (.fn 1001 e676 (.lit 0) (.lit 0) (.lit 0)) e58)) .ok)))))))) (.branch e623 (.assert p648 (.havoc false (.assume p674 (.assert (.pr 30 [e677, (.lit 5), e207]) (.havoc false (.assume (.same (.var 4) e678) (.assert (.pr 32 [e596, e597, e598, e599, e600, e601, e602, e603, e678]) (.assert (.tt (.bin .le (.fn 1001 e678 (.lit 0) (.lit 0) (.lit 0)) e58)) .ok)))))))) (.assert (.pr 30 [e653, (.lit 3), e207]) (.havoc false (.assume (.same (.var 3) e679) (.assert (.pr 32 [e596, e597, e598, e599, e600, e601, e602, e603, e679]) (.assert (.tt (.bin .le (.fn 1001 e679 (.lit 0) (.lit 0) (.lit 0)) e58)) .ok)))))))))) (.assert p614 (.assert p615 (.branch e636 (.assert p637 (.havoc false (.assume p639 (.branch e640 (.assert p641 (.havoc false (.assume p643 (.branch e644 (.assert p645 (.havoc false (.assume p647 (.branch e622 (.assert p648 (.havoc false (.assume p650 (.assert (.pr 30 [e683, (.lit 7), e207]) (.havoc false (.assume (.same (.var 7) e684) (.assert (.pr 32 [e596, e597, e598, e599, e600, e601, e602, e603, e684]) (.assert (.tt (.bin .le (.fn 1001 e684 (.lit 0) (.lit 0) (.lit 0)) e58)) .ok)))))))) (.branch e623 (.assert p648 (.havoc false (.assume p650 (.assert (.pr 30 [e685, (.lit 7), e207]) (.havoc false (.assume (.same (.var 7) e686) (.assert (.pr 32 [e596, e597, e598, e599, e600, e601, e602, e603, e686]) (.assert (.tt (.bin .le (.fn 1001 e686 (.lit 0) (.lit 0) (.lit 0)) e58)) .ok)))))))) (.assert (.pr 30 [e682, (.lit 5), e207]) (.havoc false (.assume (.same (.var 6) e687) (.assert (.pr 32 [e596, e597, e598, e599, e600, e601, e602, e603, e687]) (.assert (.tt (.bin .le (.fn 1001 e687 (.lit 0) (.lit 0) (.lit 0)) e58)) .ok)))))))))) (.branch e622 (.assert p648 (.havoc false (.assume p662 (.assert (.pr 30 [e688, (.lit 6), e207]) (.havoc false (.assume (.same (.var 6) e689) (.assert (.pr 32 [e596, e597, e598, e599, e600, e601, e602, e603, e689]) (.assert (.tt (.bin .le (.fn 1001 e689 (.lit 0) (.lit 0) (.lit 0)) e58)) .ok)))))))) (.branch e623 (.assert p648 (.havoc false (.assume p662 (.assert (.pr 30 [e690, (.lit 6), e207]) (.havoc false (.assume (.same (.var 6) e691) (.assert (.pr 32 [e596, e597, e598, e599, e600, e601, e602, e603, e691]) (.assert (.tt (.bin .le (.fn 1001 e691 (.lit 0) (.lit 0) (.lit 0)) e58)) .ok)))))))) (.assert (.pr 30 [e681, (.lit 4), e207]) (.havoc false (.assume (.same (.var 5) e692) (.assert (.pr 32 [e596, e597, e598, e599, e600, e601, e602, e603, e692]) (.assert (.tt (.bin .le (.fn 1001 e692 (.lit 0) (.lit 0) (.lit 0)) e58)) .ok))))))))))) (.branch e622 (.assert p648 (.havoc false (.assume p668 (.assert (.pr 30 [e693, (.lit 5), e207]) (.havoc false (.assume (.same (.var 5) e694) (.assert (.pr 32 [e596, e597, e598, e599, e600, e601, e602, e603, e694]) (.assert (.tt (.bin .le (.fn 1001 e694 (.lit 0) (.lit 0) (.lit 0)) e58)) .ok)))))))) (.branch e623 (.assert p648 (.havoc false (.assume p668 (.assert (.pr 30 [e695, (.lit 5), e207]) (.havoc false (.assume (.same (.var 5) e696) (.assert (.pr 32 [e596, e597, e598, e599, e600, e601, e602, e603, e696]) (.assert (.tt (.bin .le (.fn 1001 e696 (.lit 0) (.lit 0) (.lit 0)) e58)) .ok)))))))) (.assert (.pr 30 [e680, (.lit 3), e207]) (.havoc false (.assume (.same (.var 4) e697) (.assert (.pr 32 [e596, e597, e598, e599, e600, e601, e602, e603, e697]) (.assert (.tt (.bin .le (.fn 1001 e697 (.lit 0) (.lit 0) (.lit 0)) e58)) .ok))))))))))) (.branch e622 (.assert p648 (.havoc false (.assume p674 (.assert (.pr 30 [e698, (.lit 4), e207]) (.havoc false (.assume (.same (.var 4) e699) (.assert (.pr 32 [e596, e597, e598, e599, e600, e601, e602, e603, e699]) (.assert (.tt (.bin .le (.fn 1001 e699 (.lit 0) (.lit 0) (.lit 0)) e58)) .ok)))))))) (.branch e623 (.assert p648 (.havoc false (.assume p674 (.assert (.pr 30 [e700, (.lit 4), e207]) (.havoc false (.assume (.same (.var 4) e701) (.assert (.pr 32 [e596, e597, e598, e599, e600, e601, e602, e603, e701]) (.assert (.tt (.bin .le (.fn 1001 e701 (.lit 0) (.lit 0) (.lit 0)) e58)) .ok)))))))) (.assert (.pr 30 [e652, (.lit 2), e207]) (.havoc false (.assume (.same (.var 3) e702) (.assert (.pr 32 [e596, e597, e598, e599, e600, e601, e602, e603, e702]) (.assert (.tt (.bin .le (.fn 1001 e702 (.lit 0) (.lit 0) (.lit 0)) e58)) .ok))))))))))) (.branch e609 (.assert p614 (.assert p615 (.branch e636 (.assert p637 (.havoc false (.assume p639 (.branch e640 (.assert p641 (.havoc false (.assume p643 (.branch e644 (.assert p645 (.havoc false (.assume p647 (.branch e622 (.assert p648 (.havoc false (.assume p650 (.assert (.pr 30 [e707, (.lit 7), e207]) (.havoc false (.assume (.same (.var 7) e708) (.assert (.pr 32 [e596, e597, e598, e599, e600, e601, e602, e603, e708]) (.assert (.tt (.bin .le (.fn 1001 e708 (.lit 0) (.lit 0) (.lit 0)) e58)) .ok)))))))) (.branch e623 (.assert p648 (.havoc false (.assume p650 (.assert (.pr 30 [e709, (.lit 7), e207]) (.havoc false (.assume (.same (.var 7) e710) (.assert (.pr 32 [e596, e597, e598, e599, e600, e601, e602, e603, e710]) (.assert (.tt (.bin .le (.fn 1001 e710 (.lit 0) (.lit 0) (.lit 0)) e58)) .ok)))))))) (.assert (.pr 30 [e706, (.lit 5), e207]) (.havoc false (.assume (.same (.var 6) e711) (.assert (.pr 32 [e596, e597, e598, e599, e600, e601, e602, e603, e711]) (.assert (.tt (.bin .le (.fn 1001 e711 (.lit 0) (.lit 0) (.lit 0)) e58)) .ok)))))))))) (.branch e622 (.assert p648 (.havoc false (.assume p662 (.assert (.pr 30 [e712, (.lit 6), e207]) (.havoc false (.assume (.same (.var 6) e713) (.assert (.pr 32 [e596, e597, e598, e599, e600, e601, e602, e603, e713]) (.assert (.tt (.bin .le (.fn 1001 e713 (.lit 0) (.lit 0) (.lit 0)) e58)) .ok)))))))) (.branch e623 (.assert p648 (.havoc false (.assume p662 (.assert (.pr 30 [e714, (.lit 6), e207]) (.havoc false (.assume (.same (.var 6) e715) (.assert (.pr 32 [e596, e597, e598, e599, e600, e601, e602, e603, e715]) (.assert (.tt (.bin .le (.fn 1001 e715 (.lit 0) (.lit 0) (.lit 0)) e58)) .ok)))))))) (.assert (.pr 30 [e705, (.lit 4), e207]) (.havoc false (.assume (.same (.var 5) e716) (.assert (.pr 32 [e596, e597, e598, e599, e600, e601, e602, e603, e716]) (.assert (.tt (.bin .le (.fn 1001 e716 (.lit 0) (.lit 0) (.lit 0)) e58)) .ok))))))))))) (.branch e622 (.assert p648 (.havoc false (.assume p668 (.assert (.pr 30 [e717, (.lit 5), e207]) (.havoc false (.assume (.same (.var 5) e718) (.assert (.pr 32 [e596, e597, e598, e599, e600, e601, e602, e603, e718]) (.assert (.tt (.bin .le (.fn 1001 e718 (.lit 0) (.lit 0) (.lit 0)) e58)) .ok)))))))) (.branch e623 (.assert p648 (.havoc false (.assume p668 (.assert (.pr 30 [e719, (.lit 5), e207]) (.havoc false (.assume (.same (.var 5) e720) (.assert (.pr 32 [e596, e597, e598, e599, e600, e601, e602, e603, e720]) (.assert (.tt (.bin .le (.fn 1001 e720 (.lit 0) (.lit 0) (.lit 0)) e58)) .ok)))))))) (.assert (.pr 30 [e704, (.lit 3), e207]) (.havoc false (.assume (.same (.var 4) e721) (.assert (.pr 32 [e596, e597, e598, e599, e600, e601, e602, e603, e721]) (.assert (.tt (.bin .le (.fn 1001 e721 (.lit 0) (.lit 0) (.lit 0)) e58)) .ok))))))))))) (.branch e622 (.assert p648 (.havoc false (.assume p674 (.assert (.pr 30 [e722, (.lit 4), e207]) (.havoc false (.assume (.same (.var 4) e723) (.assert (.pr 32 [e596, e597, e598, e599, e600, e601, e602, e603, e723]) (.assert (.tt (.bin .le (.fn 1001 e723 (.lit 0) (.lit 0) (.lit 0)) e58)) .ok)))))))) (.branch e623 (.assert p648 (.havoc false (.assume p674 (.assert (.pr 30 [e724, (.lit 4), e207]) (.havoc false (.assume (.same (.var 4) e725) (.assert (.pr 32 [e596, e597, e598, e599, e600, e601, e602, e603, e725]) (.assert (.tt (.bin .le (.fn 1001 e725 (.lit 0) (.lit 0) (.lit 0)) e58)) .ok)))))))) (.assert (.pr 30 [e703, (.lit 2), e207]) (.havoc false (.assume (.same (.var 3) e726) (.assert (.pr 32 [e596, e597, e598, e599, e600, e601, e602, e603, e726]) (.assert (.tt (.bin .le (.fn 1001 e726 (.lit 0) (.lit 0) (.lit 0)) e58)) .ok)))))))))) (.assert p614 (.assert p615 (.branch e636 (.assert p637 (.havoc false (.assume p639 (.branch e640 (.assert p641 (.havoc false (.assume p643 (.branch e644 (.assert p645 (.havoc false (.assume p647 (.branch e622 (.assert p648 (.havoc false (.assume p650 (.assert (.pr 30 [e730, (.lit 6), e207]) (.havoc false (.assume (.same (.var 7) e731) (.assert (.pr 32 [e596, e597, e598, e599, e600, e601, e602, e603, e731]) (.assert (.tt (.bin .le (.fn 1001 e731 (.lit 0) (.lit 0) (.lit 0)) e58)) .ok)))))))) (.branch e623 (.assert p648 (.havoc false (.assume p650 (.assert (.pr 30 [e732, (.lit 6), e207]) (.havoc false (.assume (.same (.var 7) e733) (.assert (.pr 32 [e596, e597, e598, e599, e600, e601, e602, e603, e733]) (.assert (.tt (.bin .le (.fn 1001 e733 (.lit 0) (.lit 0) (.lit 0)) e58)) .ok)))))))) (.assert (.pr 30 [e729, (.lit 4), e207]) (.havoc false (.assume (.same (.var 6) e734) (.assert (.pr 32 [e596, e597, e598, e599, e600, e601, e602, e603, e734]) (.assert (.tt (.bin .le (.fn 1001 e734 (.lit 0) (.lit 0) (.lit 0)) e58)) .ok)))))))))) (.branch e622 (.assert p648 (.havoc false (.assume p662 (.assert (.pr 30 [e735, (.lit 5), e207]) (.havoc false (.assume (.same (.var 6) e736) (.assert (.pr 32 [e596, e597, e598, e599, e600, e601, e602, e603, e736]) (.assert (.tt (.bin .le (.fn 1001 e736 (.lit 0) (.lit 0) (.lit 0)) e58)) .ok)))))))) (.branch e623 (.assert p648 (.havoc false (.assume p662 (.assert (.pr 30 [e737, (.lit 5), e207]) (.havoc false (.assume (.same (.var 6) e738) (.assert (.pr 32 [e596, e597, e598, e599, e600, e601, e602, e603, e738]) (.assert (.tt (.bin .le (.fn 1001 e738 (.lit 0) (.lit 0) (.lit 0)) e58)) .ok)))))))) (.assert (.pr 30 [e728, (.lit 3), e207]) (.havoc false (.assume (.same (.var 5) e739) (.assert (.pr 32 [e596, e597, e598, e599, e600, e601, e602, e603, e739]) (.assert (.tt (.bin .le (.fn 1001 e739 (.lit 0) (.lit 0) (.lit 0)) e58)) .ok))))))))))) (.branch e622 (.assert p648 (.havoc false (.assume p668 (.assert (.pr 30 [e740, (.lit 4), e207]) (.havoc false (.assume (.same (.var 5) e741) (.assert (.pr 32 [e596, e597, e598, e599, e600, e601, e602, e603, e741]) (.assert (.tt (.bin .le (.fn 1001 e741 (.lit 0) (.lit 0) (.lit 0)) e58)) .ok)))))))) (.branch e623 (.assert p648 (.havoc false (.assume p668 (.assert (.pr 30 [e742, (.lit 4), e207]) (.havoc false (.assume (.same (.var 5) e743) (.assert (.pr 32 [e596, e597, e598, e599, e600, e601, e602, e603, e743]) (.assert (.tt (.bin .le (.fn 1001 e743 (.lit 0) (.lit 0) (.lit 0)) e58)) .ok)))))))) (.assert (.pr 30 [e727, (.lit 2), e207]) (.havoc false (.assume (.same (.var 4) e744) (.assert (.pr 32 [e596, e597, e598, e599, e600, e601, e602, e603, e744]) (.assert (.tt (.bin .le (.fn 1001 e744 (.lit 0) (.lit 0) (.lit 0)) e58)) .ok))))))))))) (.branch e622 (.assert p648 (.havoc false (.assume p674 (.assert (.pr 30 [e745, (.lit 3), e207]) (.havoc false (.assume (.same (.var 4) e746) (.assert (.pr 32 [e596, e597, e598, e599, e600, e601, e602, e603, e746]) (.assert (.tt (.bin .le (.fn 1001 e746 (.lit 0) (.lit 0) (.lit 0)) e58)) .ok)))))))) (.branch e623 (.assert p648 (.havoc false (.assume p674 (.assert (.pr 30 [e747, (.lit 3), e207]) (.havoc false (.assume (.same (.var 4) e748) (.assert (.pr 32 [e596, e597, e598, e599, e600, e601, e602, e603, e748]) (.assert (.tt (.bin .le (.fn 1001 e748 (.lit 0) (.lit 0) (.lit 0)) e58)) .ok)))))))) (.assert (.pr 30 [e651, (.lit 1), e207]) (.havoc false (.assume (.same (.var 3) e749) (.assert (.pr 32 [e596, e597, e598, e599, e600, e601, e602, e603, e749]) (.assert (.tt (.bin .le (.fn 1001 e749 (.lit 0) (.lit 0) (.lit 0)) e58)) .ok))))))))))))))))))
def tChk : Tree := (.assume (.tt e34) (.assume p594 (.assume p595 (.assume p80 (.havoc false (.assume (.pr 31 [e596, e597, e598, e599, e600, e601, e602, e603, (.var 5)]) (.branch e430 (.assert (.pr 46 [(.var 3), (.var 4), e596, e597, e598, e599, e600, e601, e602, e603, (.var 5)]) .ok) (.assert p605 (.assert p635 (.branch (.bin .eq (.bin .eq e606 (.lit 0)) (.lit 0)) (.branch (.bin .eq e606 (.lit 1)) (.branch e750 q751 (.branch (.bin .eq e606 (.lit 2)) (.branch e752 (.branch e753 (.branch e755 q751 q756) q756) q756) q760)) (.branch (.bin .eq e606 (.lit 2)) (.branch e752 (.branch e753 (.branch e755 q751 (.branch e761 q756 q758)) (.branch e761 q756 q759)) (.branch e761 q756 q757)) q760)) q760))))))))))
def tCheck : Tree := (.assume p80 (.assume p762 (.assume p763 (.assume p128 (.assume p369 (.assume p764 (.branch (.bin .lt e586 (.var 4)) q765 (.branch e140 (.branch e766 (.branch e17 (.branch (.bin .le (.var 1) e127) (.branch e34 (.branch e767 q768 (.assert (.pr 47 [(.var 3), (.lit 0), .zt, (.lit 0)]) (.havoc false (.havoc true (.havoc false (.assume p304 (.assume p769 (.assume p115 (.assume (.pr 47 [(.var 3), (.var 5), (.var 6), (.var 7)]) (.branch e770 (.havoc false (.assume (.pr 46 [(.var 6), (.var 7), e771, e772, e773, e774, e775, e776, e777, e778, (.var 8)]) (.branch e368 (.assert p81 (.assert p779 (.assert (.pr 44 [(.var 0), (.var 1), (.var 2), (.var 3), (.var 4), (.var 5), (.var 8)]) .ok))) (.assert (.tt (.bin .le (.lit 0) e771)) (.assert (.tt (.bin .lt e771 (.lit 14))) (.branch (.bin .eq (.bin .eq (.sel e142 e771 0) (.lit 0)) (.lit 0)) (.branch (.bin .eq (.sel e142 e771 0) (.lit 1)) (.branch e780 (.branch e781 (.assert p100 (.assert p101 (.assert p782 (.assert (.tt (.bin .le (.lit 0) e787)) (.assert (.pr 47 [(.var 3), e99, (.fn 1009 e784 e785 e786 (.lit 3)), e787]) q788))))) q789) q789) q792) q792)))))) q793)))))))))) q768) q768) q768) q768) q768))))))))
def tPrint : Tree := (.assume p80 (.assume p762 (.assume p763 (.assume p128 (.assume p369 (.assume p764 (.havoc false (.havoc false (.assume p81 (.assume p779 (.assume p794 (.branch e411 q796 (.havoc false (.assume (.same (.var 7) e372) (.havoc false (.assume (.same (.var 8) e797) (.havoc false (.assume (.same (.var 9) e798) (.assert (.pr 30 [e800, (.lit 4), e207]) (.havoc false (.assume (.same (.var 10) e801) (.assert (.pr 64 [(.var 0), (.var 1), (.var 2), (.var 3), (.lit 0), (.upd .zt (.lit 0) 0 e801), (.lit 1)]) (.havoc false (.havoc true (.havoc false (.assume (.tt (.bin .le (.lit 0) (.var 11))) (.assume (.tt (.bin .le (.var 11) (.var 4))) (.assume p312 (.assume (.tt (.bin .le (.var 13) e802)) (.assume (.pr 64 [(.var 0), (.var 1), (.var 2), (.var 3), (.var 11), (.var 12), (.var 13)]) (.branch (.bin .lt (.var 11) (.var 4)) (.assert (.pr 43 [(.sel (.var 3) (.var 11) 0), (.sel (.var 3) (.var 11) 1), (.sel (.var 3) (.var 11) 2), (.sel (.var 3) (.var 11) 3), (.sel (.var 3) (.var 11) 4), (.sel (.var 3) (.var 11) 5), (.sel (.var 3) (.var 11) 6), (.sel (.var 3) (.var 11) 7)]) (.havoc false (.assume (.pr 32 [(.sel (.var 3) (.var 11) 0), (.sel (.var 3) (.var 11) 1), (.sel (.var 3) (.var 11) 2), (.sel (.var 3) (.var 11) 3), (.sel (.var 3) (.var 11) 4), (.sel (.var 3) (.var 11) 5), (.sel (.var 3) (.var 11) 6), (.sel (.var 3) (.var 11) 7), (.var 14)]) (.assume (.tt (.bin .le (.fn 1001 (.var 14) (.lit 0) (.lit 0) (.lit 0)) e58)) (.assert (.tt (.bin .le e803 e11)) (.assert (.rng .i64 e802) (.assert (.tt (.bin .le (.lit 0) e802)) (.assert (.tt (.bin .le e802 (.var 4))) (.assert (.tt (.bin .le (.lit 0) e803)) (.assert (.tt (.bin .le e803 e804)) (.assert (.pr 64 [(.var 0), (.var 1), (.var 2), (.var 3), e802, (.upd (.var 12) (.var 13) 0 (.var 14)), e803]) (.assert (.tt (.bin .le (.lit 0) (.bin .sub (.var 4) e802))) (.assert (.tt (.bin .lt (.bin .sub (.var 4) e802) (.bin .sub (.var 4) (.var 11)))) .ok))))))))))))) (.assert (.pr 30 [(.var 12), (.var 13), e805]) (.havoc false (.assume (.same (.var 14) e806) (.assert (.tt (.bin .le (.bin .add (.fn 1001 e806 (.lit 0) (.lit 0) (.lit 0)) (.lit 1)) e11)) (.assert (.tt (.bin .le (.fn 1001 e807 (.lit 0) (.lit 0) (.lit 0)) e795)) (.assert (.pr 63 [(.var 0), (.var 1), (.var 2), (.var 3), (.var 4), e807, (.lit 0)]) .ok)))))))))))))))))))))))))))))))))))))
def tLines : Tree := (.assume p2 (.branch (.bin .lt (.lit 1048576) e0) q809 (.branch (.bin .eq (.var 0) (.lit 0)) (.assert p445 (.assert (.pr 61 [(.var 0), .zt, (.lit 0), (.lit 0)]) .ok)) (.assert (.tt (.bin .le e0 e11)) (.havoc false (.assume (.same (.var 1) e810) (.branch (.bin .eq e810 (.lit 0)) q811 (.havoc false (.assume (.same (.var 2) e812) (.branch (.bin .lt e45 e812) q809 (.assert p52 (.assert p53 (.assert (.tt (.bin .le e51 e0)) (.assert (.tt (.bin .le (.fn 1001 e813 (.lit 0) (.lit 0) (.lit 0)) e11)) (.assert (.tt (.bin .le (.lit 1) (.fn 1001 e805 (.lit 0) (.lit 0) (.lit 0)))) (.havoc true (.havoc false (.assume (.same (.var 3) e814) (.assume (.same (.var 4) e815) (.assume (.tt (.bin .le (.lit 1) e815)) (.assert (.tt (.bin .le (.lit 0) e815)) (.assert (.pr 23 [e814, e815]) (.assert (.pr 61 [(.var 0), e814, e815, (.lit 0)]) .ok)))))))))))))))))))))))
def tParse : Tree := (.assume p2 (.havoc true (.havoc false (.havoc false (.assume (.tt e34) (.assume p448 (.assume p816 (.branch e71 q818 (.branch e62 q819 (.assert p109 (.assert p820 (.havoc true (.havoc false (.havoc false (.assume p304 (.assume (.tt (.bin .le (.var 5) (.lit 64))) (.assume (.pr 22 [(.var 4), (.var 5)]) (.assume (.pr 16 [e450, (.var 4), (.var 5), (.var 6)]) (.branch e411 q819 (.assert (.tt (.bin .le (.var 5) (.var 5))) (.havoc false (.havoc false (.havoc false (.havoc false (.assume p821 (.assume p306 (.assume (.tt (.bin .le (.bin .add (.var 8) (.var 9)) (.var 5))) (.assume (.tt (.bin .le e822 e1)) (.assume (.pr 33 [(.var 4), (.lit 0), (.var 5), (.lit 0), (.var 7), (.var 8), (.var 9), (.var 10)]) (.havoc false (.havoc false (.havoc false (.havoc false (.assume p489 (.assume p823 (.assume p312 (.assume (.tt (.bin .le (.bin .add (.var 12) (.var 13)) (.var 5))) (.assume (.pr 38 [(.var 4), (.var 8), (.var 9), (.bin .ne (.var 7) e799), (.var 11), (.var 12), (.var 13), (.var 14)]) (.havoc false (.havoc false (.havoc false (.havoc false (.assume p589 (.assume (.tt (.bin .le (.lit 0) (.var 16))) (.assume p318 (.assume (.tt (.bin .le (.bin .add (.var 16) (.var 17)) (.var 5))) (.assume (.pr 38 [(.var 4), (.var 12), (.var 13), (.var 14), (.var 15), (.var 16), (.var 17), (.var 18)]) (.havoc false (.havoc false (.havoc false (.havoc false (.assume (.rng .i64 (.var 19)) (.assume (.tt (.bin .le (.lit 0) (.var 20))) (.assume p323 (.assume (.tt (.bin .le (.bin .add (.var 20) (.var 21)) (.var 5))) (.assume (.pr 38 [(.var 4), (.var 16), (.var 17), (.var 18), (.var 19), (.var 20), (.var 21), (.var 22)]) (.branch e327 (.branch (.bin .eq (.bin .eq (.var 21) (.lit 0)) (.lit 0)) q819 (.assert p110 (.assert p111 (.assert p113 (.assert p817 (.assert p824 (.havoc false (.havoc true (.havoc false (.assume (.tt (.bin .le (.lit 0) (.var 23))) (.assume (.tt (.bin .le (.var 23) e112)) (.assume (.tt (.bin .le (.var 23) (.var 25))) (.assume (.tt (.bin .le (.var 25) (.var 23))) (.assume (.pr 45 [(.var 24), (.var 25)]) (.assume (.pr 72 [(.var 1), (.var 24), (.var 25)]) (.branch (.bin .lt (.var 23) e112) (.assert (.tt (.bin .le (.lit 0) e825)) (.assert (.tt (.bin .lt e825 (.var 2))) (.assert (.tt (.bin .le (.fn 1001 (.sel (.var 1) e825 0) (.lit 0) (.lit 0) (.lit 0)) e1)) (.havoc false (.havoc false (.havoc false (.havoc false (.havoc false (.havoc false (.havoc false (.havoc false (.havoc false (.assume (.rng .i64 (.var 26)) (.assume (.tt (.bin .le e592 e1)) (.assume (.tt (.bin .le (.fn 1001 (.var 28) (.lit 0) (.lit 0) (.lit 0)) e1)) (.assume p593 (.assume (.rng .i64 (.var 30)) (.assume (.rng .i64 (.var 31)) (.assume (.rng .i64 (.var 32)) (.assume (.rng .i64 (.var 33)) (.assume (.pr 34 [(.sel (.var 1) e825 0), (.var 26), (.var 27), (.var 28), (.var 29), (.var 30), (.var 31), (.var 32), (.var 33), (.var 34)]) (.branch (.bin .eq (.var 34) (.lit 0)) (.assert (.rng .i64 (.bin .add (.var 23) (.lit 2))) (.assert (.pr 66 [(.var 0), (.lit 0), (.lit 0), (.lit 0), .zt, (.lit 0), (.bin .add (.var 23) (.lit 2)), (.lit 6)]) .ok)) (.assert (.tt (.bin .le e826 e11)) (.assert (.rng .i64 e827) (.assert (.tt (.bin .le (.lit 0) e827)) (.assert (.tt (.bin .le e827 e112)) (.assert (.tt (.bin .le e827 e826)) (.assert (.tt (.bin .le e826 e827)) (.assert (.pr 45 [e828, e826]) (.assert (.pr 72 [(.var 1), e828, e826]) (.assert (.tt (.bin .le (.lit 0) (.bin .sub e112 e827))) (.assert (.tt (.bin .lt (.bin .sub e112 e827) (.bin .sub e112 (.var 23)))) .ok)))))))))))))))))))))))))))))))) (.assert p329 (.assert (.tt (.bin .le (.var 25) e11)) (.havoc false (.havoc false (.assume (.tt (.bin .le e72 (.var 26))) (.assume (.tt (.bin .le (.var 26) e586)) (.assume (.pr 44 [(.var 11), (.var 15), (.var 19), (.var 24), (.var 25), (.var 26), (.var 27)]) (.branch (.bin .eq e362 (.lit 0)) (.assert (.rng .i64 (.bin .add (.var 26) (.lit 2))) (.assert (.pr 66 [(.var 0), (.lit 0), (.lit 0), (.lit 0), .zt, (.lit 0), (.bin .add (.var 26) (.lit 2)), (.var 27)]) .ok)) (.assert (.tt (.bin .le (.var 25) e586)) (.assert (.pr 66 [(.var 0), (.var 11), (.var 15), (.var 19), (.var 24), (.var 25), (.lit 0), (.lit 0)]) .ok)))))))))))))))))))))))))) q819)))))))))))))))))))))))))))))))))))))))))))))))))))))))))
def tSame : Tree := (.assume p80 (.assume p762 (.assume p763 (.assume p128 (.assume p369 (.assume p764 (.assume p306 (.assume (.tt (.bin .le (.var 9) e11)) (.assume (.pr 45 [(.var 8), (.var 9)]) (.assume p133 (.assume p134 (.assume p135 (.branch (.bin .eq (.bin .eq (.var 0) (.var 5)) (.lit 0)) q829 (.branch (.bin .eq (.bin .eq (.var 1) (.var 6)) (.lit 0)) q829 (.branch (.bin .eq (.bin .eq (.var 2) (.var 7)) (.lit 0)) q829 (.branch (.bin .eq (.bin .eq (.var 4) (.var 9)) (.lit 0)) q829 (.assert (.pr 68 [(.var 3), (.var 8), (.lit 0)]) (.havoc false (.assume p307 (.assume p830 (.assume (.tt (.bin .le (.var 10) (.var 9))) (.assume (.pr 68 [(.var 3), (.var 8), (.var 10)]) (.branch (.bin .lt (.var 10) (.var 4)) (.assert (.tt (.bin .lt (.var 10) (.var 9))) (.branch (.bin .eq (.bin .and (.bin .eq e831 (.sel (.var 8) (.var 10) 0)) (.bin .and (.bin .eq e832 (.sel (.var 8) (.var 10) 1)) (.bin .and (.bin .eq e833 (.sel (.var 8) (.var 10) 2)) (.bin .and (.bin .eq e834 (.sel (.var 8) (.var 10) 3)) (.bin .and (.bin .eq e835 (.sel (.var 8) (.var 10) 4)) (.bin .and (.bin .eq e836 (.sel (.var 8) (.var 10) 5)) (.bin .and (.bin .eq e837 (.sel (.var 8) (.var 10) 6)) (.bin .and (.bin .eq e838 (.sel (.var 8) (.var 10) 7)) (.lit 1))))))))) (.lit 0)) q829 (.assert (.rng .i64 e839) (.assert (.tt (.bin .le (.lit 0) e839)) (.assert (.tt (.bin .le e839 (.var 4))) (.assert (.tt (.bin .le e839 (.var 9))) (.assert (.pr 68 [(.var 3), (.var 8), e839]) q840))))))) (.assert (.pr 67 [(.var 0), (.var 1), (.var 2), (.var 3), (.var 4), (.var 5), (.var 6), (.var 7), (.var 8), (.var 9), (.lit 1)]) .ok))))))))))))))))))))))))
def tFar : Tree := (.assume p80 (.assume p132 (.branch (.bin .lt (.lit 60) (.var 4)) (.branch (.bin .le (.var 4) e586) q841 q844) q844)))
def tTxs : Tree := (.assume p80 (.assume p132 (.assume (.pr 71 [(.var 3), (.var 4)]) (.assume p128 (.assume p369 (.assume p764 (.havoc false (.assume (.pr 69 [(.var 3), (.var 4), (.var 5)]) (.branch (.var 5) .ok (.branch (.bin .lt (.lit 60) (.var 4)) .ok (.assert p762 (.assert p763 (.havoc false (.havoc false (.assume (.tt (.bin .le e845 e795)) (.assume (.pr 63 [(.var 0), (.var 1), (.var 2), (.var 3), (.var 4), (.var 6), (.var 7)]) (.branch e139 .ok (.assert (.tt (.bin .le e845 e1)) (.havoc false (.havoc false (.havoc false (.havoc true (.havoc false (.havoc false (.havoc false (.assume p823 (.assume (.tt (.bin .le (.var 12) e586)) (.assume (.pr 45 [(.var 11), (.var 12)]) (.assume p365 (.assume p117 (.assume p488 (.assume (.pr 66 [(.var 6), (.var 8), (.var 9), (.var 10), (.var 11), (.var 12), (.var 13), (.var 14)]) (.assert (.tt (.bin .le (.var 12) e11)) (.havoc false (.havoc false (.assume (.tt (.bin .le (.fn 1001 (.var 15) (.lit 0) (.lit 0) (.lit 0)) (.bin .add (.lit 400) (.bin .mul (.lit 210) (.var 12))))) (.assume (.pr 63 [(.var 8), (.var 9), (.var 10), (.var 11), (.var 12), (.var 15), (.var 16)]) (.branch e353 (.branch (.bin .eq (.var 16) (.lit 0)) (.branch e527 (.havoc false (.assume (.pr 67 [(.var 0), (.var 1), (.var 2), (.var 3), (.var 4), (.var 8), (.var 9), (.var 10), (.var 11), (.var 12), (.var 17)]) (.branch (.var 17) (.branch (.bin .eq (.var 6) (.var 15)) .ok q591) q591))) q591) q591) q591))))))))))))))))))))))))))))))))))))))
end Go.Tt
namespace Go.Tt
open Go Go.Sx
set_option maxRecDepth 100000
end Go.Tt
namespace Go.Tt
open Go Go.Sx Go.Lib Go.Sf
theorem joinW_len : ∀ {ws : List (List UInt8)}, Bare ws → (joinW ws).length ≤ 201 * ws.length
  | [], _ => by simp [joinW]
  | w :: l, h => by
    have hw := (h w (by simp)).2.1
    have ih := joinW_len (ws := l) fun x hx => h x (by simp [hx])
    rw [joinW_cons, List.length_append]
    split <;> simp <;> omega
theorem line_len {t : Sp} (h1 : t.Norm) (h2 : t.NB) : t.line.length ≤ 1608 := by
  have := joinW_len (wd_bare h1 h2)
  have := wd_len t
  unfold Sp.line
  omega
theorem spl_of {s : Int} {T : Tb} {n e : Int} (hS : SplP s T n e) {t : Sp} (h1 : t.Norm) (h2 : t.NB) (hs : sdec s = t.line) : e = 0 ∧ n = (t.wd.length : Nat) ∧ RowsW T t.wd n := by
  refine hS.1 t.wd (wd_bare h1 h2) (by have := wd_len t; omega) ?_ hs
  unfold slen
  rw [hs]
  have := line_len h1 h2
  omega
structure RdS (s : Int) (T : Tb) (n : Int) (W : List (List UInt8)) (lo m bad : Int) : Prop where
  good : bad = 0 → lo = (W.length : Nat) ∧ m = n - (W.length : Nat) ∧ ∀ (i : Nat) (w : List UInt8), W[i]? = some w → T i 0 = 0 ∧ T i 1 = senc w
  comp : ∀ t : Sp, t.Norm → t.NB → sdec s = t.line → bad = 0 ∧ ∃ R, t.wd = W ++ R
variable {s n lo m bad x lo' m' bad' e : Int} {T : Tb} {W : List (List UInt8)}
theorem rd_begin : RdS s T n [] 0 n 0 := ⟨fun _ => ⟨rfl, by simp, fun i w h => by simp at h⟩, fun t _ _ _ => ⟨rfl, t.wd, rfl⟩⟩
theorem snoc_get {w : List UInt8} {i : Nat} {v : List UInt8} (h : (W ++ [w])[i]? = some v) : W[i]? = some v ∨ (i = W.length ∧ v = w) := by
  rcases Nat.lt_or_ge i W.length with h1 | h1
  · rw [List.getElem?_append_left h1] at h; exact .inl h
  · rw [List.getElem?_append_right h1] at h
    have h2 : i - W.length = 0 := by
      rcases Nat.eq_zero_or_pos (i - W.length) with h3 | h3
      · exact h3
      · rw [List.getElem?_eq_none (by simp; omega)] at h; cases h
    rw [h2] at h
    simp at h
    exact .inr ⟨by omega, h.symm⟩
theorem wd_at {t : Sp} {R : List (List UInt8)} {v : List UInt8} (h : t.wd = W ++ R) (hv : t.wd[W.length]? = some v) : ∃ R', R = v :: R' := by
  rw [h, List.getElem?_append_right (Nat.le_refl _), Nat.sub_self] at hv
  cases R with
  | nil => simp at hv
  | cons a R' => simp at hv; exact ⟨R', by rw [hv]⟩
theorem rd_field (hS : SplP s T n e) (h : RdS s T n W lo m bad) (hF : FieldP T lo m bad x lo' m' bad')
    (hl : ∀ t : Sp, t.Norm → t.NB → sdec s = t.line → (∃ R, t.wd = W ++ R) → W.length < t.wd.length) : RdS s T n (W ++ [sdec x]) lo' m' bad' := by
  refine ⟨fun hb => ?_, fun t h1 h2 hs => ?_⟩
  · rcases hF with ⟨g1, g2, g3, g4, g5, g6⟩ | ⟨_, _, _, _, g6⟩
    · obtain ⟨f1, f2, f3⟩ := h.good (by omega)
      refine ⟨by simp; omega, by simp; omega, fun i w hw => ?_⟩
      rcases snoc_get hw with hw | ⟨rfl, rfl⟩
      · exact f3 i w hw
      · subst f1; exact ⟨g2, by rw [senc_sdec]; exact g3.symm⟩
    · omega
  · obtain ⟨hb, R, hR⟩ := h.comp t h1 h2 hs
    obtain ⟨f1, f2, f3⟩ := h.good hb
    obtain ⟨_, hn, hr⟩ := spl_of hS h1 h2 hs
    have hlt := hl t h1 h2 hs ⟨R, hR⟩
    obtain ⟨r1, r2⟩ := hr W.length (by omega)
    rcases hF with ⟨g1, g2, g3, g4, g5, g6⟩ | ⟨g, _⟩
    · refine ⟨by omega, ?_⟩
      have hg := List.getElem?_eq_getElem hlt
      obtain ⟨R', rfl⟩ := wd_at hR hg
      have := r2 _ hg
      rw [f1] at g3
      rw [g3, this, sdec_senc]
      exact ⟨R', by rw [List.append_assoc]; exact hR⟩
    · exact absurd ⟨by omega, by rw [f1]; exact r1⟩ g
theorem rd_num (hS : SplP s T n e) (h : RdS s T n W lo m bad) (hN : NumP T lo m bad x lo' m' bad')
    (hl : ∀ t : Sp, t.Norm → t.NB → sdec s = t.line → (∃ R, t.wd = W ++ R) → ∃ v, I64 v ∧ t.wd[W.length]? = some (itoa v)) : RdS s T n (W ++ [itoa x]) lo' m' bad' := by
  obtain ⟨y, b, e', hF, hI, rfl⟩ := hN
  have h2 := rd_field hS h hF fun t h1 h2 h3 h4 => by
    obtain ⟨v, _, hv⟩ := hl t h1 h2 h3 h4
    exact (List.getElem?_eq_some_iff.1 hv).1
  refine ⟨fun hb => ?_, fun t h3 h4 hs => ?_⟩
  · have hb0 : b = 0 ∧ e' = 0 := by
      by_cases hh : b ≠ 0 ∨ e' ≠ 0
      · rw [if_pos hh] at hb; cases hb
      · omega
    obtain ⟨f1, f2, f3⟩ := h2.good hb0.1
    have : sdec y = itoa x := by
      rcases hI with ⟨_, _, h⟩ | ⟨h, _⟩
      · exact h
      · exact absurd hb0.2 h
    rw [this] at f1 f2 f3
    exact ⟨f1, f2, f3⟩
  · obtain ⟨hb, R, hR⟩ := h2.comp t h3 h4 hs
    obtain ⟨_, R0, hR0⟩ := h.comp t h3 h4 hs
    obtain ⟨v, hv, hg⟩ := hl t h3 h4 hs ⟨R0, hR0⟩
    have hy : sdec y = itoa v := by
      rw [hR] at hg
      rw [List.append_assoc, List.getElem?_append_right (Nat.le_refl _), Nat.sub_self] at hg
      simpa using hg
    rcases hI with ⟨he, hx, h⟩ | ⟨_, h⟩
    · have : x = v := itoa_inj hx hv (by rw [← h, hy])
      subst this
      exact ⟨by rw [if_neg (by omega)], R, by rw [hR, hy]⟩
    · exact absurd hy (h v hv)
def base (k : Nat) : Nat := 1 + (if kar k = 0 then 0 else 1) + (if knm k = 0 then 0 else 1)
theorem wd_head (t : Sp) : t.wd.head? = some (kw.getD t.k []) := rfl
theorem kind_of {t : Sp} (h1 : t.Norm) {k : Nat} (hk : 1 ≤ k ∧ k ≤ 13) {R : List (List UInt8)} (h : t.wd = W ++ R) (hW : W.head? = some (kw.getD k [])) : t.k = k := by
  have h2 := wd_head t
  rw [h, List.head?_append, hW] at h2
  have h3 : kw.getD k [] = kw.getD t.k [] := Option.some.inj h2
  exact (kw_inj (by omega) (by have := h1.k; omega) h3).symm
theorem wd_num {t : Sp} (h : t.Norm) {i : Nat} (hi : i < knum t.k) : ∃ v, I64 v ∧ t.wd[base t.k + i]? = some (itoa v) := by
  obtain ⟨k, a, m, x, y, z, w, n⟩ := t
  obtain ⟨h1, _, _, h4, h5, h6, _, _⟩ := h
  have h1 : 1 ≤ k ∧ k ≤ 13 := h1
  have hi : i < knum k := hi
  have h4 : I64 x ∧ _ := h4
  have h5 : I64 y ∧ _ := h5
  have h6 : I64 z ∧ _ := h6
  have hk : k = 1 ∨ k = 3 ∨ k = 7 ∨ k = 8 ∨ k = 9 ∨ k = 11 ∨ k = 12 := by
    unfold knum at hi
    split at hi <;> omega
  rcases hk with rfl | rfl | rfl | rfl | rfl | rfl | rfl <;> simp only [knum] at hi <;> simp only [Sp.wd, base, kar, knm, knum]
  all_goals
    rcases i with _ | _ | _ | i
    · exact ⟨x, h4.1, rfl⟩
    · first | (exact ⟨y, h5.1, rfl⟩) | omega
    · first | (exact ⟨z, h6.1, rfl⟩) | omega
    · omega
theorem wd_base (t : Sp) (h : t.Norm) : base t.k + knum t.k ≤ t.wd.length := by
  obtain ⟨k, a, m, x, y, z, w, n⟩ := t
  have h1 := h.k
  have h1 : 1 ≤ k ∧ k ≤ 13 := h1
  obtain ⟨j, rfl⟩ : ∃ j : Fin 14, k = j.val := ⟨⟨k, by omega⟩, rfl⟩
  unfold Sp.wd base
  simp only [List.length_cons, List.length_append, List.length_map, List.length_take]
  have : knum j.val ≤ 3 := by unfold knum; split <;> omega
  split <;> split <;> simp <;> omega
theorem rd_first (hS : SplP s T n e) (hF : FieldP T 0 n 0 x lo' m' bad') : RdS s T n [sdec x] lo' m' bad' := by
  have := rd_field hS (rd_begin (s := s) (T := T) (n := n)) hF fun t _ _ _ _ => by simp [Sp.wd]
  simpa using this
theorem rd_name (k : Nat) (hk : 1 ≤ k ∧ k ≤ 13) (hS : SplP s T n e) (h : RdS s T n W lo m bad) (hF : FieldP T lo m bad x lo' m' bad') (hW : W.head? = some (kw.getD k [])) (hl : W.length < base k + knum k) : RdS s T n (W ++ [sdec x]) lo' m' bad' := by
  refine rd_field hS h hF fun t h1 _ _ ⟨R, hR⟩ => ?_
  have := kind_of h1 hk hR hW
  have := wd_base t h1
  subst_vars
  omega
theorem rd_numb (k i : Nat) (hk : 1 ≤ k ∧ k ≤ 13) (hS : SplP s T n e) (h : RdS s T n W lo m bad) (hN : NumP T lo m bad x lo' m' bad') (hW : W.head? = some (kw.getD k [])) (hl : W.length = base k + i) (hi : i < knum k) : RdS s T n (W ++ [itoa x]) lo' m' bad' := by
  refine rd_num hS h hN fun t h1 _ _ ⟨R, hR⟩ => ?_
  have hk2 := kind_of h1 hk hR hW
  subst hk2
  rw [hl]
  exact wd_num h1 hi
variable {k a b y z w u : Int}
theorem raw_none (h : ∀ t : Sp, t.Norm → t.NB → sdec s ≠ t.line) : RawP s k a b x y z w u 0 := .inr ⟨rfl, h⟩
theorem raw_bad (h : RdS s T n W lo m bad) (hb : ¬ bad = 0) : RawP s k a b x y z w u 0 := raw_none fun t h1 h2 hs => hb (h.comp t h1 h2 hs).1
theorem raw_yes (hS : SplP s T n 0) (h : RdS s T n W lo m 0) (hm : m = 0) (hk : 0 ≤ k) (hN : (stp k a b x y z w u).Norm) (hW : W = (stp k a b x y z w u).wd) : RawP s k a b x y z w u 1 := by
  obtain ⟨f1, f2, f3⟩ := h.good rfl
  have hr : ∀ r : Nat, (r : Int) < n → T r 0 = 0 := fun r hr => by
    have hl : r < W.length := by omega
    exact (f3 r _ (List.getElem?_eq_getElem hl)).1
  obtain ⟨ws, h1, h2, h3, h4, h5⟩ := hS.2 rfl hr
  have e : ws = W := by
    apply List.ext_getElem?
    intro i
    rcases Nat.lt_or_ge i ws.length with hi | hi
    · have hg := List.getElem?_eq_getElem hi
      have g1 := (h5 i (by omega)).2 _ hg
      have hj : i < W.length := by omega
      have g2 := (f3 i _ (List.getElem?_eq_getElem hj)).2
      rw [hg, List.getElem?_eq_getElem hj]
      rw [g1] at g2
      rw [show ws[i] = W[i] from by have := congrArg sdec g2; rwa [sdec_senc, sdec_senc] at this]
    · rw [List.getElem?_eq_none hi, List.getElem?_eq_none (by omega)]
  subst e
  refine .inl ⟨by decide, hk, hN, ?_, by rw [h4, hW]; rfl⟩
  rw [hW] at h1
  constructor
  · intro hk
    exact h1 _ (by unfold Sp.wd; rw [if_neg hk]; simp)
  · intro hk
    exact h1 _ (by unfold Sp.wd; rw [if_neg hk]; simp)
theorem wd_pre (t : Sp) (_h : t.Norm) : ∃ P : List (List UInt8), P.length = base t.k + knum t.k ∧ t.wd = P ++ (if t.w = 1 then [wIs, itoa t.n] else if t.w = 2 then [wFails, itoa t.n] else []) := by
  refine ⟨kw.getD t.k [] :: ((if kar t.k = 0 then [] else [t.a]) ++ (if knm t.k = 0 then [] else [t.m]) ++ (([t.x, t.y, t.z].take (knum t.k)).map itoa)), ?_, by unfold Sp.wd; simp⟩
  have : knum t.k ≤ 3 := by unfold knum; split <;> omega
  unfold base
  simp only [List.length_cons, List.length_append, List.length_map, List.length_take]
  split <;> split <;> simp <;> omega
theorem wd_want {t : Sp} (h : t.Norm) {R : List (List UInt8)} (hR : t.wd = W ++ R) (hW : W.length = base t.k + knum t.k) : R = if t.w = 1 then [wIs, itoa t.n] else if t.w = 2 then [wFails, itoa t.n] else [] := by
  obtain ⟨P, h1, h2⟩ := wd_pre t h
  rw [h2] at hR
  exact (List.append_inj hR (by omega)).2.symm
theorem stp_want (w u : Int) (hw : w = 1 ∨ w = 2) : (stp k a b x y z w u).wd = (stp k a b x y z 0 0).wd ++ [if w = 1 then wIs else wFails, itoa u] := by
  rcases hw with rfl | rfl <;> simp [stp, Sp.wd] <;> rfl
theorem norm_want {w u : Int} (hw : w = 1 ∨ w = 2) (hu : I64 u) (h : (stp k a b x y z 0 0).Norm) : (stp k a b x y z w u).Norm := by
  obtain ⟨h1, h2, h3, h4, h5, h6, _, _⟩ := h
  exact ⟨h1, h2, h3, h4, h5, h6, .inr hw, hu, fun h0 => by
    have h0 : w = 0 := h0
    omega⟩
structure Tail (s : Int) (T : Tb) (n : Int) (W : List (List UInt8)) (k a b x y z : Int) : Prop where
  spl : SplP s T n 0
  k13 : 1 ≤ k.toNat ∧ k.toNat ≤ 13
  k0 : 0 ≤ k
  head : W.head? = some (kw.getD k.toNat [])
  len : W.length = base k.toNat + knum k.toNat
  eq : W = (stp k a b x y z 0 0).wd
  norm : (stp k a b x y z 0 0).Norm
theorem tail0 (H : Tail s T n W k a b x y z) (h : RdS s T n W lo m bad) (hm : m = 0) : (bad = 0 → RawP s k a b x y z 0 0 (if m = 0 then 1 else 0)) ∧ (¬ bad = 0 → RawP s k a b x y z 0 0 0) := by
  refine ⟨fun hb => ?_, fun hb => raw_bad h hb⟩
  subst hb
  rw [if_pos hm]
  exact raw_yes H.spl h hm H.k0 H.norm H.eq
theorem tail_more (H : Tail s T n W k a b x y z) (h : RdS s T n W lo m bad) (hm : ¬ m = 0) {t : Sp} (h1 : t.Norm) (h2 : t.NB) (hs : sdec s = t.line) :
    ∃ R, t.wd = W ++ R ∧ t.k = k.toNat ∧ ((t.w = 1 ∧ R = [wIs, itoa t.n]) ∨ (t.w = 2 ∧ R = [wFails, itoa t.n])) := by
  obtain ⟨hb, R, hR⟩ := h.comp t h1 h2 hs
  obtain ⟨f1, f2, f3⟩ := h.good hb
  obtain ⟨_, hn, _⟩ := spl_of H.spl h1 h2 hs
  have hk := kind_of h1 H.k13 hR H.head
  have hw := wd_want h1 hR (by rw [hk]; exact H.len)
  have hlen : t.wd.length = W.length + R.length := by rw [hR, List.length_append]
  refine ⟨R, hR, hk, ?_⟩
  rcases h1.w with h0 | h0 | h0
  · rw [h0] at hw; simp at hw; subst hw; simp at hlen; omega
  · exact .inl ⟨h0, by rw [hw, if_pos h0]⟩
  · exact .inr ⟨h0, by rw [hw, if_neg (by omega), if_pos h0]⟩
theorem tail_field (H : Tail s T n W k a b x y z) (h : RdS s T n W lo m bad) (hm : ¬ m = 0) {v lo2 m2 bad2 : Int} (hF : FieldP T lo m bad v lo2 m2 bad2) : RdS s T n (W ++ [sdec v]) lo2 m2 bad2 :=
  rd_field H.spl h hF fun t h1 h2 hs _ => by
    obtain ⟨R, hR, _, hh⟩ := tail_more H h hm h1 h2 hs
    rw [hR, List.length_append]
    rcases hh with ⟨_, rfl⟩ | ⟨_, rfl⟩ <;> simp
theorem tail_want (H : Tail s T n W k a b x y z) (h : RdS s T n W lo m bad) (hm : ¬ m = 0) {v lo2 m2 bad2 : Int} (hF : FieldP T lo m bad v lo2 m2 bad2) {w : Int} (hw : w = 1 ∨ w = 2) (hv : v = senc (if w = 1 then wIs else wFails))
    {u lo3 m3 bad3 : Int} (hu : I64 u) (hN : NumP T lo2 m2 bad2 u lo3 m3 bad3) : (bad3 = 0 → RawP s k a b x y z w u (if m3 = 0 then 1 else 0)) ∧ (¬ bad3 = 0 → RawP s k a b x y z w u 0) := by
  have h2 := tail_field H h hm hF
  have h3 := rd_num H.spl h2 hN fun t g1 g2 gs _ => by
    obtain ⟨R, hR, _, hh⟩ := tail_more H h hm g1 g2 gs
    refine ⟨t.n, g1.n.1, ?_⟩
    rw [hR, List.length_append, List.getElem?_append_right (by simp)]
    rcases hh with ⟨_, rfl⟩ | ⟨_, rfl⟩ <;> simp
  refine ⟨fun hb => ?_, fun hb => raw_bad h3 hb⟩
  subst hb
  by_cases h0 : m3 = 0
  · rw [if_pos h0]
    refine raw_yes H.spl h3 h0 H.k0 (norm_want hw hu H.norm) ?_
    rw [stp_want w u hw, ← H.eq, hv, sdec_senc, List.append_assoc]; rfl
  · rw [if_neg h0]
    refine raw_none fun t g1 g2 gs => ?_
    obtain ⟨R, hR, _, hh⟩ := tail_more H h hm g1 g2 gs
    obtain ⟨hb, R', hR'⟩ := h3.comp t g1 g2 gs
    obtain ⟨f1, f2, f3⟩ := h3.good rfl
    obtain ⟨_, hn, _⟩ := spl_of H.spl g1 g2 gs
    have hlen : t.wd.length = W.length + R.length := by rw [hR, List.length_append]
    have : R.length = 2 := by rcases hh with ⟨_, rfl⟩ | ⟨_, rfl⟩ <;> rfl
    simp at f2
    omega
theorem tail_other (H : Tail s T n W k a b x y z) (h : RdS s T n W lo m bad) (hm : ¬ m = 0) {v lo2 m2 bad2 : Int} (hF : FieldP T lo m bad v lo2 m2 bad2) (h1 : ¬ v = senc wIs) (h2 : ¬ v = senc wFails) (u : Int) : RawP s k a b x y z 0 u 0 := by
  refine raw_none fun t g1 g2 gs => ?_
  obtain ⟨R, hR, _, hh⟩ := tail_more H h hm g1 g2 gs
  obtain ⟨_, R', hR'⟩ := (tail_field H h hm hF).comp t g1 g2 gs
  rw [hR, List.append_assoc] at hR'
  have h3 := List.append_cancel_left hR'
  rcases hh with ⟨_, rfl⟩ | ⟨_, rfl⟩
  · simp at h3
    exact h1 (by rw [h3.1, senc_sdec])
  · simp at h3
    exact h2 (by rw [h3.1, senc_sdec])
theorem num_bad {lo3 m3 bad3 u : Int} (h : NumP T lo m 1 u lo3 m3 bad3) : ¬ bad3 = 0 := by
  obtain ⟨y, b, e', hF, _, rfl⟩ := h
  rcases hF with ⟨_, _, _, _, _, g⟩ | ⟨_, _, _, _, g⟩ <;> rw [if_pos (.inl (by omega))] <;> decide
theorem w_is : (14901 : Int) = senc wIs := by kernel_rfl
theorem w_fails : (-250025947444 : Int) = senc wFails := by kernel_rfl
theorem tail_a (H : Tail s T n W k a b x y z) (h : RdS s T n W lo m bad) :
    (m = 0 → (bad = 0 → slen 0 ≤ 100000 ∧ RawP s k a b x y z 0 0 (if m = 0 then 1 else 0)) ∧ (¬bad = 0 → slen 0 ≤ 100000 ∧ RawP s k a b x y z 0 0 0)) ∧
    (¬m = 0 → ∀ v lo2 m2 bad2 : Int, 0 ≤ lo2 → 0 ≤ m2 → lo2 + m2 ≤ n → slen v ≤ 100000 → FieldP T lo m bad v lo2 m2 bad2 →
      (v = 14901 → ∀ u lo3 m3 bad3 : Int, -9223372036854775808 ≤ u ∧ u ≤ 9223372036854775807 → 0 ≤ lo3 → 0 ≤ m3 → lo3 + m3 ≤ n → NumP T lo2 m2 bad2 u lo3 m3 bad3 → (bad3 = 0 → slen 0 ≤ 100000 ∧ RawP s k a b x y z 1 u (if m3 = 0 then 1 else 0)) ∧ (¬bad3 = 0 → slen 0 ≤ 100000 ∧ RawP s k a b x y z 1 u 0)) ∧
      (¬v = 14901 → (v = -250025947444 → ∀ u lo3 m3 bad3 : Int, -9223372036854775808 ≤ u ∧ u ≤ 9223372036854775807 → 0 ≤ lo3 → 0 ≤ m3 → lo3 + m3 ≤ n → NumP T lo2 m2 bad2 u lo3 m3 bad3 → (bad3 = 0 → slen 0 ≤ 100000 ∧ RawP s k a b x y z 2 u (if m3 = 0 then 1 else 0)) ∧ (¬bad3 = 0 → slen 0 ≤ 100000 ∧ RawP s k a b x y z 2 u 0)) ∧
        (¬v = -250025947444 → ∀ u lo3 m3 bad3 : Int, -9223372036854775808 ≤ u ∧ u ≤ 9223372036854775807 → 0 ≤ lo3 → 0 ≤ m3 → lo3 + m3 ≤ n → NumP T lo2 m2 1 u lo3 m3 bad3 → (bad3 = 0 → slen 0 ≤ 100000 ∧ RawP s k a b x y z 0 u (if m3 = 0 then 1 else 0)) ∧ (¬bad3 = 0 → slen 0 ≤ 100000 ∧ RawP s k a b x y z 0 u 0)))) := by
  have h00 : slen 0 ≤ 100000 := by rw [slen_0]; omega
  refine ⟨fun hm => ?_, fun hm v lo2 m2 bad2 _ _ _ _ hF => ⟨fun hv u lo3 m3 bad3 hu _ _ _ hN => ?_, fun h1 => ⟨fun hv u lo3 m3 bad3 hu _ _ _ hN => ?_, fun h2 u lo3 m3 bad3 hu _ _ _ hN => ?_⟩⟩⟩
  · exact ⟨fun hb => ⟨h00, (tail0 H h hm).1 hb⟩, fun hb => ⟨h00, (tail0 H h hm).2 hb⟩⟩
  · have t := tail_want H h hm hF (.inl rfl) (by rw [hv]; exact w_is) hu hN
    exact ⟨fun hb => ⟨h00, t.1 hb⟩, fun hb => ⟨h00, t.2 hb⟩⟩
  · have t := tail_want H h hm hF (.inr rfl) (by rw [hv]; exact w_fails) hu hN
    exact ⟨fun hb => ⟨h00, t.1 hb⟩, fun hb => ⟨h00, t.2 hb⟩⟩
  · have t := tail_other H h hm hF (fun e => h1 (by rw [e]; exact w_is.symm)) (fun e => h2 (by rw [e]; exact w_fails.symm)) u
    exact ⟨fun hb => absurd hb (num_bad hN), fun _ => ⟨h00, t⟩⟩
theorem tail_b (H : Tail s T n W k a b x y z) (h : RdS s T n W lo m bad) :
    (m = 0 → (bad = 0 → RawP s k a b x y z 0 0 (if m = 0 then 1 else 0)) ∧ (¬bad = 0 → RawP s k a b x y z 0 0 0)) ∧
    (¬m = 0 → ∀ v lo2 m2 bad2 : Int, 0 ≤ lo2 → 0 ≤ m2 → lo2 + m2 ≤ n → slen v ≤ 100000 → FieldP T lo m bad v lo2 m2 bad2 →
      (v = 14901 → ∀ u lo3 m3 bad3 : Int, -9223372036854775808 ≤ u ∧ u ≤ 9223372036854775807 → 0 ≤ lo3 → 0 ≤ m3 → lo3 + m3 ≤ n → NumP T lo2 m2 bad2 u lo3 m3 bad3 → (bad3 = 0 → RawP s k a b x y z 1 u (if m3 = 0 then 1 else 0)) ∧ (¬bad3 = 0 → RawP s k a b x y z 1 u 0)) ∧
      (¬v = 14901 → (v = -250025947444 → ∀ u lo3 m3 bad3 : Int, -9223372036854775808 ≤ u ∧ u ≤ 9223372036854775807 → 0 ≤ lo3 → 0 ≤ m3 → lo3 + m3 ≤ n → NumP T lo2 m2 bad2 u lo3 m3 bad3 → (bad3 = 0 → RawP s k a b x y z 2 u (if m3 = 0 then 1 else 0)) ∧ (¬bad3 = 0 → RawP s k a b x y z 2 u 0)) ∧
        (¬v = -250025947444 → ∀ u lo3 m3 bad3 : Int, -9223372036854775808 ≤ u ∧ u ≤ 9223372036854775807 → 0 ≤ lo3 → 0 ≤ m3 → lo3 + m3 ≤ n → NumP T lo2 m2 1 u lo3 m3 bad3 → (bad3 = 0 → RawP s k a b x y z 0 u (if m3 = 0 then 1 else 0)) ∧ (¬bad3 = 0 → RawP s k a b x y z 0 u 0)))) := by
  have h00 : slen 0 ≤ 100000 := by rw [slen_0]; omega
  refine ⟨fun hm => ?_, fun hm v lo2 m2 bad2 _ _ _ _ hF => ⟨fun hv u lo3 m3 bad3 hu _ _ _ hN => ?_, fun h1 => ⟨fun hv u lo3 m3 bad3 hu _ _ _ hN => ?_, fun h2 u lo3 m3 bad3 hu _ _ _ hN => ?_⟩⟩⟩
  · exact ⟨fun hb => (tail0 H h hm).1 hb, fun hb => (tail0 H h hm).2 hb⟩
  · have t := tail_want H h hm hF (.inl rfl) (by rw [hv]; exact w_is) hu hN
    exact ⟨fun hb => t.1 hb, fun hb => t.2 hb⟩
  · have t := tail_want H h hm hF (.inr rfl) (by rw [hv]; exact w_fails) hu hN
    exact ⟨fun hb => t.1 hb, fun hb => t.2 hb⟩
  · have t := tail_other H h hm hF (fun e => h1 (by rw [e]; exact w_is.symm)) (fun e => h2 (by rw [e]; exact w_fails.symm)) u
    exact ⟨fun hb => absurd hb (num_bad hN), fun _ => t⟩
theorem norm_mk {K : Int} (k : Nat) (hK : K.toNat = k) (hk : 1 ≤ k ∧ k ≤ 13) (ha : kar k = 0 → a = 0) (hb : knm k = 0 → b = 0) (hx : I64 x ∧ (knum k < 1 → x = 0)) (hy : I64 y ∧ (knum k < 2 → y = 0)) (hz : I64 z ∧ (knum k < 3 → z = 0)) :
    (stp K a b x y z 0 0).Norm := by
  subst hK
  exact ⟨hk, fun h => by show sdec a = []; rw [ha h]; rfl, fun h => by show sdec b = []; rw [hb h]; rfl, hx, hy, hz, .inl rfl, ⟨by show (-9223372036854775808 : Int) ≤ 0; decide, by show (0 : Int) ≤ 9223372036854775807; decide⟩, fun _ => rfl⟩
theorem i64_0 : I64 0 := ⟨by decide, by decide⟩
def kcode : Nat → Int
  | 1 => 56327174044082
  | 2 => -17231794176406323
  | 3 => 215691474609
  | 4 => 909750583
  | 5 => -55764601025338
  | 6 => -252115039034
  | 7 => -850475063
  | 8 => 220011707066
  | 9 => -909260091
  | 10 => -219919530809
  | 11 => -252148397367
  | 12 => -56325194363706
  | 13 => -859061045
  | _ => 0
theorem kc1 : senc (kw.getD 1 []) = (56327174044082 : Int) := by kernel_rfl
theorem kc2 : senc (kw.getD 2 []) = (-17231794176406323 : Int) := by kernel_rfl
theorem kc3 : senc (kw.getD 3 []) = (215691474609 : Int) := by kernel_rfl
theorem kc4 : senc (kw.getD 4 []) = (909750583 : Int) := by kernel_rfl
theorem kc5 : senc (kw.getD 5 []) = (-55764601025338 : Int) := by kernel_rfl
theorem kc6 : senc (kw.getD 6 []) = (-252115039034 : Int) := by kernel_rfl
theorem kc7 : senc (kw.getD 7 []) = (-850475063 : Int) := by kernel_rfl
theorem kc8 : senc (kw.getD 8 []) = (220011707066 : Int) := by kernel_rfl
theorem kc9 : senc (kw.getD 9 []) = (-909260091 : Int) := by kernel_rfl
theorem kc10 : senc (kw.getD 10 []) = (-219919530809 : Int) := by kernel_rfl
theorem kc11 : senc (kw.getD 11 []) = (-252148397367 : Int) := by kernel_rfl
theorem kc12 : senc (kw.getD 12 []) = (-56325194363706 : Int) := by kernel_rfl
theorem kc13 : senc (kw.getD 13 []) = (-859061045 : Int) := by kernel_rfl
theorem kc {j : Nat} (h1 : 1 ≤ j) (h2 : j ≤ 13) : senc (kw.getD j []) = kcode j := by
  have : j = 1 ∨ j = 2 ∨ j = 3 ∨ j = 4 ∨ j = 5 ∨ j = 6 ∨ j = 7 ∨ j = 8 ∨ j = 9 ∨ j = 10 ∨ j = 11 ∨ j = 12 ∨ j = 13 := by omega
  rcases this with rfl | rfl | rfl | rfl | rfl | rfl | rfl | rfl | rfl | rfl | rfl | rfl | rfl
  · exact kc1
  · exact kc2
  · exact kc3
  · exact kc4
  · exact kc5
  · exact kc6
  · exact kc7
  · exact kc8
  · exact kc9
  · exact kc10
  · exact kc11
  · exact kc12
  · exact kc13
theorem raw_kind {v : Int} (hS : SplP s T n 0) (hF : FieldP T 0 n 0 v lo' m' bad') (h : ∀ j : Nat, 1 ≤ j → j ≤ 13 → ¬ kcode j = v) : RawP s k a b x y z w u 0 := raw_none fun t h1 h2 hs => by
  obtain ⟨_, R, hR⟩ := (rd_first hS hF).comp t h1 h2 hs
  have h3 := wd_head t
  rw [hR] at h3
  have h4 : sdec v = kw.getD t.k [] := Option.some.inj h3
  refine h t.k h1.k.1 h1.k.2 ?_
  rw [← kc h1.k.1 h1.k.2, ← h4, senc_sdec]
theorem kcase {v : Int} (h : (¬ kcode 1 = v ∧ ¬ kcode 2 = v ∧ ¬ kcode 3 = v ∧ ¬ kcode 4 = v ∧ ¬ kcode 5 = v ∧ ¬ kcode 6 = v ∧ ¬ kcode 7 = v) ∧ ¬ kcode 8 = v ∧ ¬ kcode 9 = v ∧ ¬ kcode 10 = v ∧ ¬ kcode 11 = v ∧ ¬ kcode 12 = v ∧ ¬ kcode 13 = v) :
    ∀ j : Nat, 1 ≤ j → j ≤ 13 → ¬ kcode j = v := by
  intro j h1 h2
  have : j = 1 ∨ j = 2 ∨ j = 3 ∨ j = 4 ∨ j = 5 ∨ j = 6 ∨ j = 7 ∨ j = 8 ∨ j = 9 ∨ j = 10 ∨ j = 11 ∨ j = 12 ∨ j = 13 := by omega
  obtain ⟨⟨a1, a2, a3, a4, a5, a6, a7⟩, a8, a9, a10, a11, a12, a13⟩ := h
  rcases this with rfl | rfl | rfl | rfl | rfl | rfl | rfl | rfl | rfl | rfl | rfl | rfl | rfl <;> assumption
theorem kcase0 : ∀ j : Nat, 1 ≤ j → j ≤ 13 → ¬ kcode j = 0 := kcase (by decide)
end Go.Tt
namespace Go.Tt
open Go Go.Sx Go.Lib Go.Sf
theorem colAr {k : Int} (h1 : 1 ≤ k) (h2 : k ≤ 13) : (tupd (tupd (tupd (tupd (tupd (tupd (tupd (tupd (tupd (tupd (tupd (tupd (tupd (tupd (fun _ _ => 0) 0 0 0) 1 0 1) 2 0 2) 3 0 2) 4 0 2) 5 0 2) 6 0 2) 7 0 2) 8 0 2) 9 0 0) 10 0 0) 11 0 0) 12 0 0) 13 0 2) k 0 = ((kar k.toNat : Nat) : Int) := by
  have : k = 1 ∨ k = 2 ∨ k = 3 ∨ k = 4 ∨ k = 5 ∨ k = 6 ∨ k = 7 ∨ k = 8 ∨ k = 9 ∨ k = 10 ∨ k = 11 ∨ k = 12 ∨ k = 13 := by omega
  rcases this with rfl | rfl | rfl | rfl | rfl | rfl | rfl | rfl | rfl | rfl | rfl | rfl | rfl <;> decide
theorem colNm {k : Int} (h1 : 1 ≤ k) (h2 : k ≤ 13) : (tupd (tupd (tupd (tupd (tupd (tupd (tupd (tupd (tupd (tupd (tupd (tupd (tupd (tupd (fun _ _ => 0) 0 0 0) 1 0 0) 2 0 0) 3 0 1) 4 0 1) 5 0 2) 6 0 0) 7 0 2) 8 0 2) 9 0 0) 10 0 0) 11 0 0) 12 0 0) 13 0 0) k 0 = ((knm k.toNat : Nat) : Int) := by
  have : k = 1 ∨ k = 2 ∨ k = 3 ∨ k = 4 ∨ k = 5 ∨ k = 6 ∨ k = 7 ∨ k = 8 ∨ k = 9 ∨ k = 10 ∨ k = 11 ∨ k = 12 ∨ k = 13 := by omega
  rcases this with rfl | rfl | rfl | rfl | rfl | rfl | rfl | rfl | rfl | rfl | rfl | rfl | rfl <;> decide
theorem colOf {k : Int} (h1 : 1 ≤ k) (h2 : k ≤ 13) : (tupd (tupd (tupd (tupd (tupd (tupd (tupd (tupd (tupd (tupd (tupd (tupd (tupd (tupd (fun _ _ => 0) 0 0 0) 1 0 0) 2 0 0) 3 0 3) 4 0 4) 5 0 4) 6 0 0) 7 0 3) 8 0 3) 9 0 0) 10 0 0) 11 0 0) 12 0 0) 13 0 0) k 0 = kof k.toNat := by
  have : k = 1 ∨ k = 2 ∨ k = 3 ∨ k = 4 ∨ k = 5 ∨ k = 6 ∨ k = 7 ∨ k = 8 ∨ k = 9 ∨ k = 10 ∨ k = 11 ∨ k = 12 ∨ k = 13 := by omega
  rcases this with rfl | rfl | rfl | rfl | rfl | rfl | rfl | rfl | rfl | rfl | rfl | rfl | rfl <;> decide
theorem colNum {k : Int} (h1 : 1 ≤ k) (h2 : k ≤ 13) : (tupd (tupd (tupd (tupd (tupd (tupd (tupd (tupd (tupd (tupd (tupd (tupd (tupd (tupd (fun _ _ => 0) 0 0 0) 1 0 3) 2 0 0) 3 0 2) 4 0 0) 5 0 0) 6 0 0) 7 0 1) 8 0 2) 9 0 1) 10 0 0) 11 0 1) 12 0 3) 13 0 0) k 0 = ((knum k.toNat : Nat) : Int) := by
  have : k = 1 ∨ k = 2 ∨ k = 3 ∨ k = 4 ∨ k = 5 ∨ k = 6 ∨ k = 7 ∨ k = 8 ∨ k = 9 ∨ k = 10 ∨ k = 11 ∨ k = 12 ∨ k = 13 := by omega
  rcases this with rfl | rfl | rfl | rfl | rfl | rfl | rfl | rfl | rfl | rfl | rfl | rfl | rfl <;> decide
theorem colWd {k : Int} (h1 : 1 ≤ k) (h2 : k ≤ 13) : (tupd (tupd (tupd (tupd (tupd (tupd (tupd (tupd (tupd (tupd (tupd (tupd (tupd (tupd (fun _ _ => 0) 0 0 0) 1 0 56327174044082) 2 0 (-17231794176406323)) 3 0 215691474609) 4 0 909750583) 5 0 (-55764601025338)) 6 0 (-252115039034)) 7 0 (-850475063)) 8 0 220011707066) 9 0 (-909260091)) 10 0 (-219919530809)) 11 0 (-252148397367)) 12 0 (-56325194363706)) 13 0 (-859061045)) k 0 = kcode k.toNat := by
  have : k = 1 ∨ k = 2 ∨ k = 3 ∨ k = 4 ∨ k = 5 ∨ k = 6 ∨ k = 7 ∨ k = 8 ∨ k = 9 ∨ k = 10 ∨ k = 11 ∨ k = 12 ∨ k = 13 := by omega
  rcases this with rfl | rfl | rfl | rfl | rfl | rfl | rfl | rfl | rfl | rfl | rfl | rfl | rfl <;> decide
theorem kar_le (k : Nat) : kar k ≤ 2 := by unfold kar; split <;> omega
theorem knm_le (k : Nat) : knm k ≤ 2 := by unfold knm; split <;> omega
theorem knum_le (k : Nat) : knum k ≤ 3 := by unfold knum; split <;> omega
theorem kcw {k : Int} (h1 : 1 ≤ k) (h2 : k ≤ 13) : kcode k.toNat = senc (kw.getD k.toNat []) := (kc (by omega) (by omega)).symm
def T3 (x y z : Int) : Tb := tupd (tupd (tupd (fun _ _ => 0) 0 0 x) 1 0 y) 2 0 z
theorem t3_0 (x y z : Int) : T3 x y z 0 0 = x := by simp [T3, tupd]
theorem t3_1 (x y z : Int) : T3 x y z 1 0 = y := by simp [T3, tupd]
theorem t3_2 (x y z : Int) : T3 x y z 2 0 = z := by simp [T3, tupd]
theorem any3 {x y z C b : Int} (h : AnyP (T3 x y z) C (3 - C) b) (h0 : 0 ≤ C) : b ≠ 0 ↔ (C < 1 ∧ x ≠ 0) ∨ (C < 2 ∧ y ≠ 0) ∨ (C < 3 ∧ z ≠ 0) := by
  unfold AnyP at h
  rw [h]
  constructor
  · rintro ⟨j, h1, h2, h3⟩
    have : j = 0 ∨ j = 1 ∨ j = 2 := by omega
    rcases this with rfl | rfl | rfl
    · rw [t3_0] at h3; exact .inl ⟨by omega, h3⟩
    · rw [t3_1] at h3; exact .inr (.inl ⟨by omega, h3⟩)
    · rw [t3_2] at h3; exact .inr (.inr ⟨by omega, h3⟩)
  · rintro (⟨h1, h2⟩ | ⟨h1, h2⟩ | ⟨h1, h2⟩)
    · exact ⟨0, by omega, by omega, by rw [t3_0]; exact h2⟩
    · exact ⟨1, by omega, by omega, by rw [t3_1]; exact h2⟩
    · exact ⟨2, by omega, by omega, by rw [t3_2]; exact h2⟩
theorem big3 {x y z b : Int} (h : BigA (T3 x y z) 0 3 b) : b ≠ 0 ↔ Big x ∨ Big y ∨ Big z := by
  unfold BigA at h
  rw [h]
  constructor
  · rintro ⟨j, h1, h2, h3⟩
    have : j = 0 ∨ j = 1 ∨ j = 2 := by omega
    rcases this with rfl | rfl | rfl
    · rw [t3_0] at h3; exact .inl h3
    · rw [t3_1] at h3; exact .inr (.inl h3)
    · rw [t3_2] at h3; exact .inr (.inr h3)
  · rintro (h2 | h2 | h2)
    · exact ⟨0, by omega, by omega, by rw [t3_0]; exact h2⟩
    · exact ⟨1, by omega, by omega, by rw [t3_1]; exact h2⟩
    · exact ⟨2, by omega, by omega, by rw [t3_2]; exact h2⟩
theorem join_joinW : ∀ ws : List (List UInt8), Lib.join ws [32] = joinW ws
  | [] => rfl
  | [w] => join_one w [32]
  | w :: x :: l => by
    have ih := join_joinW (x :: l)
    rw [join_cons] at ih ⊢
    show w ++ joinTail [32] (x :: l) = w ++ 32 :: joinW (x :: l)
    rw [← ih]
    simp [joinTail]
theorem blank : sdec (-17) = [32] := rfl
theorem joinS_rows {T : Tb} {ws : List (List UInt8)} {n : Int} (h : RowsS T ws n) : joinS T n (-17) = senc (joinW ws) := by
  obtain ⟨rfl, h2⟩ := h
  unfold joinS
  rw [blank, ← join_joinW]
  congr 2
  apply List.ext_getElem?
  intro i
  rw [Int.toNat_natCast]
  rcases Nat.lt_or_ge i ws.length with hi | hi
  · rw [List.getElem?_map, List.getElem?_range hi, List.getElem?_eq_getElem hi]
    simp only [Option.map_some]
    rw [h2 i _ (List.getElem?_eq_getElem hi), sdec_senc]
  · rw [List.getElem?_eq_none hi, List.getElem?_eq_none (by simpa using hi)]
theorem rows1 {c : Int} {w : List UInt8} (hc : c = senc w) : RowsS (tupd (fun _ _ => 0) 0 0 c) [w] 1 := by
  refine ⟨rfl, fun r v hr => ?_⟩
  cases r with
  | zero => simp at hr; subst hr; simp [tupd, hc]
  | succ r => simp at hr
theorem rowsP {T : Tb} {ws : List (List UInt8)} {n c : Int} {w : List UInt8} (h : RowsS T ws n) (hc : c = senc w) (n' : Int) (hn : n' = n + 1) : RowsS (tupd T n 0 c) (ws ++ [w]) n' := by
  obtain ⟨rfl, h2⟩ := h
  refine ⟨by simp; omega, fun r v hr => ?_⟩
  unfold tupd
  rcases snoc_get hr with h | ⟨rfl, rfl⟩
  · have := (List.getElem?_eq_some_iff.1 h).1
    rw [if_neg (by omega)]
    exact h2 r v h
  · rw [if_pos ⟨rfl, rfl⟩, hc]
theorem short_rows {T : Tb} {ws : List (List UInt8)} {n : Int} (h : RowsS T ws n) (hn : ws.length ≤ 1000) (hl : ∀ w ∈ ws, w.length ≤ 1000) : Short T n (-17) := by
  obtain ⟨rfl, h2⟩ := h
  refine ⟨by omega, by decide, fun r hr => ?_⟩
  have hr' : r < ws.length := by omega
  rw [h2 r _ (List.getElem?_eq_getElem hr'), slen_senc]
  have := hl _ (List.getElem_mem hr')
  omega
structure OkF (k a m x y z w n : Int) : Prop where
  k1 : 1 ≤ k
  k13 : k ≤ 13
  ar : kar k.toNat = 0 ↔ a = 0
  nm : knm k.toNat = 0 ↔ m = 0
  a16 : (sdec a).length ≤ 16
  m16 : (sdec m).length ≤ 16
  w : w = 0 ∨ w = 1 ∨ w = 2
theorem okF {k a m x y z w n : Int} (h : OkP k a m x y z w n) : OkF k a m x y z w n := by
  unfold OkP stepE at h
  split at h
  · cases h
  · rename_i h1
    split at h
    · cases h
    · rename_i h2
      split at h
      · cases h
      · rename_i h3
        have e1 : ∀ {p q : Prop}, ¬ (p ∧ ¬ q) → p → q := fun h hp => Classical.byContradiction fun hq => h ⟨hp, hq⟩
        have ha : kar k.toNat = 0 → a = 0 := fun hk => Classical.byContradiction fun ha => h2 (.inl ⟨hk, sdec_ne.2 ha⟩)
        have hm : knm k.toNat = 0 → m = 0 := fun hk => Classical.byContradiction fun ha => h2 (.inr (.inl ⟨hk, sdec_ne.2 ha⟩))
        have hA : kar k.toNat ≠ 0 → NameP (sdec a) := e1 fun hh => h3 (.inl hh)
        have hM : knm k.toNat ≠ 0 → NameP (sdec m) := e1 fun hh => h3 (.inr hh)
        have ne : ∀ {b : Int}, NameP (sdec b) → b ≠ 0 := fun hb e => by
          subst e
          have := hb.1
          simp [sdec_0] at this
        refine ⟨by omega, by omega, ⟨ha, fun e => Classical.byContradiction fun hk => ne (hA hk) e⟩, ⟨hm, fun e => Classical.byContradiction fun hk => ne (hM hk) e⟩, ?_, ?_, by omega⟩
        · by_cases hk : kar k.toNat = 0
          · rw [ha hk, sdec_0]; simp
          · exact (hA hk).2.1
        · by_cases hk : knm k.toNat = 0
          · rw [hm hk, sdec_0]; simp
          · exact (hM hk).2.1
theorem wd_eq {k a m x y z w n : Int} (h : OkF k a m x y z w n) {A M X V : List (List UInt8)} (hA : (a ≠ 0 ∧ A = [sdec a]) ∨ (a = 0 ∧ A = [])) (hM : (m ≠ 0 ∧ M = [sdec m]) ∨ (m = 0 ∧ M = []))
    (hX : X = ([x, y, z].take (knum k.toNat)).map itoa) (hV : (w = 1 ∧ V = [wIs, itoa n]) ∨ (w = 2 ∧ V = [wFails, itoa n]) ∨ (w ≠ 1 ∧ w ≠ 2 ∧ V = [])) :
    (stp k a m x y z w n).wd = [kw.getD k.toNat []] ++ A ++ M ++ X ++ V := by
  have e : (stp k a m x y z w n).wd = kw.getD k.toNat [] :: ((if kar k.toNat = 0 then [] else [sdec a]) ++ (if knm k.toNat = 0 then [] else [sdec m]) ++ (([x, y, z].take (knum k.toNat)).map itoa) ++ (if w = 1 then [wIs, itoa n] else if w = 2 then [wFails, itoa n] else [])) := rfl
  rw [e, ← hX]
  have eA : (if kar k.toNat = 0 then [] else [sdec a]) = A := by
    rcases hA with ⟨h1, rfl⟩ | ⟨h1, rfl⟩
    · rw [if_neg (fun hh => h1 (h.ar.1 hh))]
    · rw [if_pos (h.ar.2 h1)]
  have eM : (if knm k.toNat = 0 then [] else [sdec m]) = M := by
    rcases hM with ⟨h1, rfl⟩ | ⟨h1, rfl⟩
    · rw [if_neg (fun hh => h1 (h.nm.1 hh))]
    · rw [if_pos (h.nm.2 h1)]
  have eV : (if w = 1 then [wIs, itoa n] else if w = 2 then [wFails, itoa n] else []) = V := by
    rcases hV with ⟨h1, rfl⟩ | ⟨h1, rfl⟩ | ⟨h1, h2, rfl⟩
    · rw [if_pos h1]
    · rw [if_neg (by omega), if_pos h1]
    · rw [if_neg h1, if_neg h2]
  rw [eA, eM, eV]
  simp
theorem line_of {k a m x y z w n : Int} (h : OkF k a m x y z w n) {A M X V : List (List UInt8)} (hA : (a ≠ 0 ∧ A = [sdec a]) ∨ (a = 0 ∧ A = [])) (hM : (m ≠ 0 ∧ M = [sdec m]) ∨ (m = 0 ∧ M = []))
    (hX : X = ([x, y, z].take (knum k.toNat)).map itoa) (hV : (w = 1 ∧ V = [wIs, itoa n]) ∨ (w = 2 ∧ V = [wFails, itoa n]) ∨ (w ≠ 1 ∧ w ≠ 2 ∧ V = [])) {T : Tb} {c : Int}
    (hT : RowsS T ([kw.getD k.toNat []] ++ A ++ M ++ X ++ V) c) : joinS T c (-17) = senc (stp k a m x y z w n).line := by
  rw [joinS_rows hT, ← wd_eq h hA hM hX hV]; rfl
theorem line_short {k a m x y z w n : Int} (h : OkF k a m x y z w n) (hx : I64 x) (hy : I64 y) (hz : I64 z) (hn : I64 n) : (stp k a m x y z w n).line.length ≤ 200 := by
  have jl : ∀ ws : List (List UInt8), (joinW ws).length ≤ (ws.map (·.length + 1)).sum := by
    intro ws
    induction ws with
    | nil => simp [joinW]
    | cons v l ih =>
      rw [joinW_cons, List.length_append, List.map_cons, List.sum_cons]
      split <;> simp <;> omega
  have h1 := jl (stp k a m x y z w n).wd
  have hk := h.k1
  have hk2 := h.k13
  have ha := h.a16
  have hm := h.m16
  have lx := itoa_len hx
  have ly := itoa_len hy
  have lz := itoa_len hz
  have ln := itoa_len hn
  have lk := kw_len (k := k.toNat) (by omega)
  unfold Sp.line
  refine Nat.le_trans h1 ?_
  have e : (stp k a m x y z w n).wd = kw.getD k.toNat [] :: ((if kar k.toNat = 0 then [] else [sdec a]) ++ (if knm k.toNat = 0 then [] else [sdec m]) ++ (([x, y, z].take (knum k.toNat)).map itoa) ++ (if w = 1 then [wIs, itoa n] else if w = 2 then [wFails, itoa n] else [])) := rfl
  rw [e]
  have hw1 : wIs.length = 2 := rfl
  have hw2 : wFails.length = 5 := rfl
  have hnum : ((([x, y, z].take (knum k.toNat)).map itoa).map (·.length + 1)).sum ≤ 63 := by
    have := knum_le k.toNat
    have hc : knum k.toNat = 0 ∨ knum k.toNat = 1 ∨ knum k.toNat = 2 ∨ knum k.toNat = 3 := by omega
    rcases hc with hc | hc | hc | hc <;> rw [hc] <;> simp <;> omega
  simp only [List.map_cons, List.map_append, List.sum_cons, List.sum_append]
  have hA : ((if kar k.toNat = 0 then ([] : List (List UInt8)) else [sdec a]).map (·.length + 1)).sum ≤ 17 := by split <;> simp <;> omega
  have hM : ((if knm k.toNat = 0 then ([] : List (List UInt8)) else [sdec m]).map (·.length + 1)).sum ≤ 17 := by split <;> simp <;> omega
  have hV : ((if w = 1 then [wIs, itoa n] else if w = 2 then [wFails, itoa n] else ([] : List (List UInt8))).map (·.length + 1)).sum ≤ 27 := by
    split
    · simp [hw1]; omega
    · split
      · simp [hw2]; omega
      · simp
  omega
theorem stp_inj {k a m x y z w n k' a' m' x' y' z' w' n' : Int} (h0 : 0 ≤ k) (h1 : 0 ≤ k') (h : stp k a m x y z w n = stp k' a' m' x' y' z' w' n') : k = k' ∧ a = a' ∧ m = m' ∧ x = x' ∧ y = y' ∧ z = z' ∧ w = w' ∧ n = n' := by
  unfold stp at h
  simp only [Sp.mk.injEq] at h
  obtain ⟨g1, g2, g3, g4, g5, g6, g7, g8⟩ := h
  exact ⟨by omega, sdec_inj g2, sdec_inj g3, g4, g5, g6, g7, g8⟩
theorem lineOf_inj {s : Int} {t t' : Sp} (h : LineOf s t) (h' : LineOf s t') : t = t' := line_inj h.1 h.2.1 h'.1 h'.2.1 (by rw [← h.2.2, ← h'.2.2])
end Go.Tt
namespace Go.Tt
open Go Go.Sx Go.Lib Go.Sf
def RS (f : Tb) : Int → List (List UInt8) → Prop
  | _, [] => True
  | i, w :: l => f i 0 = senc w ∧ RS f (i + 1) l
theorem rs_get {f : Tb} : ∀ {ws : List (List UInt8)} {i : Int}, RS f i ws ↔ ∀ (r : Nat) (w : List UInt8), ws[r]? = some w → f (i + r) 0 = senc w
  | [], i => by simp [RS]
  | v :: l, i => by
    unfold RS
    rw [rs_get]
    constructor
    · rintro ⟨h1, h2⟩ r w hr
      cases r with
      | zero => simp at hr; subst hr; simpa using h1
      | succ r =>
        have := h2 r w (by simpa using hr)
        rw [show i + ((r + 1 : Nat) : Int) = i + 1 + r by omega]; exact this
    · intro h
      refine ⟨by simpa using h 0 v rfl, fun r w hr => ?_⟩
      have := h (r + 1) w (by simpa using hr)
      rw [show i + ((r + 1 : Nat) : Int) = i + 1 + r by omega] at this; exact this
theorem rows_iff {f : Tb} {ws : List (List UInt8)} {n : Int} : RowsS f ws n ↔ n = (ws.length : Nat) ∧ RS f 0 ws := by
  unfold RowsS
  rw [rs_get]
  simp
def b01 (k : Nat) : Int := if k = 0 then 0 else 1
structure WF (f : Tb) (n : Int) (t : Sp) : Prop where
  len : n = 1 + b01 (kar t.k) + b01 (knm t.k) + (knum t.k : Nat) + (if t.w = 1 ∨ t.w = 2 then 2 else 0)
  a : kar t.k ≠ 0 → f 1 0 = senc t.a
  m : knm t.k ≠ 0 → f (1 + b01 (kar t.k)) 0 = senc t.m
  x : 0 < knum t.k → f (1 + b01 (kar t.k) + b01 (knm t.k)) 0 = senc (itoa t.x)
  y : 1 < knum t.k → f (1 + b01 (kar t.k) + b01 (knm t.k) + 1) 0 = senc (itoa t.y)
  z : 2 < knum t.k → f (1 + b01 (kar t.k) + b01 (knm t.k) + 2) 0 = senc (itoa t.z)
  w1 : t.w = 1 → f (1 + b01 (kar t.k) + b01 (knm t.k) + (knum t.k : Nat)) 0 = senc wIs
  w2 : t.w = 2 → f (1 + b01 (kar t.k) + b01 (knm t.k) + (knum t.k : Nat)) 0 = senc wFails
  n : t.w = 1 ∨ t.w = 2 → f (1 + b01 (kar t.k) + b01 (knm t.k) + (knum t.k : Nat) + 1) 0 = senc (itoa t.n)
set_option linter.unusedSimpArgs false in
theorem wf_iff {f : Tb} {n : Int} {t : Sp} (hw : t.w = 0 ∨ t.w = 1 ∨ t.w = 2) : RowsS f t.wd n ↔ f 0 0 = senc (kw.getD t.k []) ∧ WF f n t := by
  have hc := knum_le t.k
  have hc : knum t.k = 0 ∨ knum t.k = 1 ∨ knum t.k = 2 ∨ knum t.k = 3 := by omega
  rw [rows_iff]
  unfold Sp.wd
  constructor
  · rintro ⟨h1, h2⟩
    by_cases ha : kar t.k = 0 <;> by_cases hm : knm t.k = 0 <;> rcases hc with hc | hc | hc | hc <;> rcases hw with hw | hw | hw <;>
      simp [ha, hm, hc, hw, RS, -List.getD_eq_getElem?_getD] at h1 h2 <;> (first | refine ⟨h2.1, ?_⟩ | refine ⟨h2, ?_⟩) <;> constructor <;> simp [ha, hm, hc, hw, b01, h1, h2]
  · rintro ⟨h0, h⟩
    obtain ⟨g1, g2, g3, g4, g5, g6, g7, g8, g9⟩ := h
    by_cases ha : kar t.k = 0 <;> by_cases hm : knm t.k = 0 <;> rcases hc with hc | hc | hc | hc <;> rcases hw with hw | hw | hw <;>
      simp [ha, hm, hc, hw, b01] at g1 g2 g3 g4 g5 g6 g7 g8 g9 <;> simp [ha, hm, hc, hw, RS, *]
structure Rd (s : Int) (f : Tb) (n k : Int) : Prop where
  word : ∃ ws, Bare ws ∧ sdec s = joinW ws ∧ RowsS f ws n
  kind : f 0 0 = senc (kw.getD k.toNat [])
  k1 : 1 ≤ k
  k13 : k ≤ 13
variable {s : Int} {f : Tb} {n k : Int}
theorem Rd.of (h : Rd s f n k) {t : Sp} (hN : t.Norm) (hB : t.NB) (hs : sdec s = t.line) : t.k = k.toNat ∧ WF f n t := by
  obtain ⟨ws, hb, h1, h2⟩ := h.word
  have e : ws = t.wd := joinW_inj hb (wd_bare hN hB) (by rw [← h1, hs]; rfl)
  subst e
  obtain ⟨g1, g2⟩ := (wf_iff hN.w).1 h2
  refine ⟨kw_inj hN.k.2 (by have := h.k13; have := h.k1; omega) ?_, g2⟩
  have := g1.symm.trans h.kind
  have := congrArg sdec this
  rwa [sdec_senc, sdec_senc] at this
section
variable {a m x y z q lo i jn jw e : Int}
end
end Go.Tt
namespace Go.Tt
open Go Go.Sx Go.Lib Go.Sf
theorem tf_iff {M key : Tb} {mm : Int} (h0 : 0 ≤ mm) : 0 ≤ tfind M key 3 mm.toNat 0 ↔ InM M mm (key 0 0) (key 0 1) (key 0 2) := by
  rcases tfind_spec M key 3 mm.toNat 0 with ⟨h1, h2⟩ | ⟨j, h1, h2, h3, h4, _⟩
  · rw [h1]
    refine ⟨fun h => by omega, fun ⟨r, r0, r1, g0, g1, g2⟩ => ?_⟩
    obtain ⟨c, hc, hn⟩ := h2 r.toNat (by omega) (by omega)
    rw [show ((r.toNat : Nat) : Int) = r by omega] at hn
    have : c = 0 ∨ c = 1 ∨ c = 2 := by omega
    rcases this with rfl | rfl | rfl
    · exact absurd g0 hn
    · exact absurd g1 hn
    · exact absurd g2 hn
  · rw [h1]
    exact ⟨fun _ => ⟨j, by omega, by omega, h4 0 (by decide), h4 1 (by decide), h4 2 (by decide)⟩, fun _ => by omega⟩
theorem put_iff {M key : Tb} {mm k a b : Int} (h0 : 0 ≤ mm) :
    InM (mput M mm key 3) (if 0 ≤ tfind M key 3 mm.toNat 0 then mm else mm + 1) k a b ↔ InM M mm k a b ∨ (k = key 0 0 ∧ a = key 0 1 ∧ b = key 0 2) := by
  unfold mput
  by_cases h : 0 ≤ tfind M key 3 mm.toNat 0
  · rw [if_pos h, if_pos h]
    have hk := (tf_iff h0).1 h
    constructor
    · rintro ⟨r, r0, r1, g0, g1, g2⟩
      simp at g0 g1 g2
      exact .inl ⟨r, r0, r1, g0, g1, g2⟩
    · rintro (⟨r, r0, r1, g0, g1, g2⟩ | ⟨rfl, rfl, rfl⟩)
      · exact ⟨r, r0, r1, by simpa using g0, by simpa using g1, by simpa using g2⟩
      · obtain ⟨r, r0, r1, g0, g1, g2⟩ := hk
        exact ⟨r, r0, r1, by simpa using g0, by simpa using g1, by simpa using g2⟩
  · rw [if_neg h, if_neg h]
    constructor
    · rintro ⟨r, r0, r1, g0, g1, g2⟩
      by_cases e : r = mm
      · subst e
        simp at g0 g1 g2
        exact .inr ⟨g0.symm, g1.symm, g2.symm⟩
      · simp [e] at g0 g1 g2
        exact .inl ⟨r, r0, by omega, g0, g1, g2⟩
    · rintro (⟨r, r0, r1, g0, g1, g2⟩ | ⟨rfl, rfl, rfl⟩)
      · have e : r ≠ mm := by omega
        exact ⟨r, r0, by omega, by simp [e, g0], by simp [e, g1], by simp [e, g2]⟩
      · exact ⟨mm, h0, by omega, by simp, by simp, by simp⟩
def kA (a : Int) : Tb := tupd (tupd (fun _ _ => 0) 0 0 1) 0 1 a
def kN (k a m : Int) : Tb := tupd (tupd (tupd (fun _ _ => 0) 0 0 k) 0 1 a) 0 2 m
section
variable {M : Tb} {mm : Int}
theorem find_ar (h0 : 0 ≤ mm) (a : Int) : 0 ≤ tfind M (tupd (tupd (fun _ _ => 0) 0 0 1) 0 1 a) (Int.toNat 3) mm.toNat 0 ↔ InM M mm 1 a 0 := tf_iff h0
theorem find_nm (h0 : 0 ≤ mm) (k a m : Int) : 0 ≤ tfind M (tupd (tupd (tupd (fun _ _ => 0) 0 0 k) 0 1 a) 0 2 m) (Int.toNat 3) mm.toNat 0 ↔ InM M mm k a m := tf_iff h0
theorem put_ar (h0 : 0 ≤ mm) (a : Int) (k a' b : Int) : InM (mput M mm (kA a) 3) (if 0 ≤ tfind M (kA a) 3 mm.toNat 0 then mm else mm + 1) k a' b ↔ InM M mm k a' b ∨ (k = 1 ∧ a' = a ∧ b = 0) := put_iff h0
theorem put_nm (h0 : 0 ≤ mm) (q a m : Int) (k a' b : Int) : InM (mput M mm (kN q a m) 3) (if 0 ≤ tfind M (kN q a m) 3 mm.toNat 0 then mm else mm + 1) k a' b ↔ InM M mm k a' b ∨ (k = q ∧ a' = a ∧ b = m) := put_iff h0
end
section
variable {A N : Prop} {k : Int}
open Classical in
theorem name_e {e : Int} (h : e ≠ 0) : nameE A N k e = e := by unfold nameE; rw [if_pos h]
open Classical in
theorem name_8 (h : (kar k.toNat = 1 ∧ A) ∨ (knm k.toNat = 1 ∧ N)) : nameE A N k 0 = 8 := by unfold nameE; rw [if_neg (by decide), if_pos h]
open Classical in
theorem name_4 (h : ¬ ((kar k.toNat = 1 ∧ A) ∨ (knm k.toNat = 1 ∧ N))) (h2 : (kar k.toNat = 2 ∧ ¬ A) ∨ (knm k.toNat = 2 ∧ ¬ N)) : nameE A N k 0 = 4 := by unfold nameE; rw [if_neg (by decide), if_neg h, if_pos h2]
open Classical in
theorem name_0 (h : ¬ ((kar k.toNat = 1 ∧ A) ∨ (knm k.toNat = 1 ∧ N))) (h2 : ¬ ((kar k.toNat = 2 ∧ ¬ A) ∨ (knm k.toNat = 2 ∧ ¬ N))) : nameE A N k 0 = 0 := by unfold nameE; rw [if_neg (by decide), if_neg h, if_neg h2]
theorem name_irr {N' : Prop} {e : Int} (hn : knm k.toNat = 0) : nameE A N k e = nameE A N' k e := by
  have h1 : ((kar k.toNat = 1 ∧ A) ∨ (knm k.toNat = 1 ∧ N)) ↔ ((kar k.toNat = 1 ∧ A) ∨ (knm k.toNat = 1 ∧ N')) := by rw [hn]; simp
  have h2 : ((kar k.toNat = 2 ∧ ¬ A) ∨ (knm k.toNat = 2 ∧ ¬ N)) ↔ ((kar k.toNat = 2 ∧ ¬ A) ∨ (knm k.toNat = 2 ∧ ¬ N')) := by rw [hn]; simp
  by_cases he : e = 0
  · subst he
    by_cases g1 : (kar k.toNat = 1 ∧ A) ∨ (knm k.toNat = 1 ∧ N)
    · rw [name_8 g1, name_8 (h1.1 g1)]
    · by_cases g2 : (kar k.toNat = 2 ∧ ¬ A) ∨ (knm k.toNat = 2 ∧ ¬ N)
      · rw [name_4 g1 g2, name_4 (fun h => g1 (h1.2 h)) (h2.1 g2)]
      · rw [name_0 g1 g2, name_0 (fun h => g1 (h1.2 h)) (fun h => g2 (h2.2 h))]
  · rw [name_e he, name_e he]
theorem name_step {e : Int} (h : nameE A N k e = 0) : e = 0 := Classical.byContradiction fun he => he (by rw [name_e he] at h; exact h)
end
theorem kar_1 {k : Int} (h : kar k.toNat = 1) : k = 1 := by
  unfold kar at h
  split at h <;> first | omega | cases h
theorem knm_1 {k : Int} (h : knm k.toNat = 1) : k = 3 ∨ k = 4 := by
  unfold knm at h
  split at h <;> first | omega | cases h
theorem made_next {T : Tb} {i a : Int} (h0 : 0 ≤ i) : Made T (i + 1) a ↔ Made T i a ∨ (T i 0 = 1 ∧ T i 1 = a) := by
  constructor
  · rintro ⟨j, j0, j1, g⟩
    by_cases e : j = i
    · subst e; exact .inr g
    · exact .inl ⟨j, j0, by omega, g⟩
  · rintro (⟨j, j0, j1, g⟩ | g)
    · exact ⟨j, j0, by omega, g⟩
    · exact ⟨i, h0, by omega, g⟩
theorem has_next {T : Tb} {i k a m : Int} (h0 : 0 ≤ i) : Has T (i + 1) k a m ↔ Has T i k a m ∨ (T i 0 = k ∧ T i 1 = a ∧ T i 2 = m) := by
  constructor
  · rintro ⟨j, j0, j1, g⟩
    by_cases e : j = i
    · subst e; exact .inr g
    · exact .inl ⟨j, j0, by omega, g⟩
  · rintro (⟨j, j0, j1, g⟩ | g)
    · exact ⟨j, j0, by omega, g⟩
    · exact ⟨i, h0, by omega, g⟩
theorem okI_next {T : Tb} {i : Int} (h : OkI T i) (he : aftR T i = 0) : OkI T (i + 1) := fun j j0 j1 => by
  by_cases e : j = i
  · rw [e]; exact he
  · exact h j j0 (by omega)
theorem map_after {T M : Tb} {i mm e : Int} (h : MapI T i M mm) (hc : ChkM M mm (T i 0) (T i 1) (T i 2) (T i 3) (T i 4) (T i 5) (T i 6) (T i 7) e) : e = aftR T i := by
  unfold ChkM at hc
  rw [hc]
  obtain ⟨_, h1, h2⟩ := h
  unfold aftR aftE
  by_cases hs : stepE (T i 0) (sdec (T i 1)) (sdec (T i 2)) (T i 3) (T i 4) (T i 5) (T i 6) (T i 7) = 0
  · by_cases hn : knm (T i 0).toNat = 0
    · rw [hs]
      have e1 : InM M mm 1 (T i 1) 0 = Made T i (T i 1) := propext (h1 _)
      rw [e1]
      exact name_irr hn
    · have hkof : kof (T i 0).toNat = 3 ∨ kof (T i 0).toNat = 4 := by
        unfold knm at hn
        split at hn
        · rename_i e; rw [e]; exact .inl rfl
        · rename_i e; rw [e]; exact .inr rfl
        · rename_i e; rw [e]; exact .inr rfl
        · rename_i e; rw [e]; exact .inl rfl
        · rename_i e; rw [e]; exact .inl rfl
        · exact absurd rfl hn
      have e1 : InM M mm 1 (T i 1) 0 = Made T i (T i 1) := propext (h1 _)
      have e2 : InM M mm (kof (T i 0).toNat) (T i 1) (T i 2) = Has T i (kof (T i 0).toNat) (T i 1) (T i 2) := propext (h2 _ _ _ hkof)
      rw [e1, e2]
  · rw [name_e hs, name_e hs]
theorem map_begin (T : Tb) : MapI T 0 (fun _ _ => 0) 0 := ⟨fun j _ _ => by omega, fun a => ⟨fun ⟨r, _, _, _⟩ => by omega, fun ⟨r, _, _, _⟩ => by omega⟩, fun k a m _ => ⟨fun ⟨r, _, _, _⟩ => by omega, fun ⟨r, _, _, _⟩ => by omega⟩⟩
theorem map_ar {T M : Tb} {i mm : Int} (h0 : 0 ≤ i) (m0 : 0 ≤ mm) (h : MapI T i M mm) (he : aftR T i = 0) (hk : kar (T i 0).toNat = 1) :
    MapI T (i + 1) (mput M mm (kA (T i 1)) 3) (if 0 ≤ tfind M (kA (T i 1)) 3 mm.toNat 0 then mm else mm + 1) := by
  have hk := kar_1 hk
  obtain ⟨g0, g1, g2⟩ := h
  refine ⟨okI_next g0 he, fun a => ?_, fun k a m hkk => ?_⟩
  · rw [put_ar m0, made_next h0, g1]
    exact or_congr Iff.rfl ⟨fun ⟨_, h, _⟩ => ⟨hk, h.symm⟩, fun ⟨_, h⟩ => ⟨rfl, h.symm, rfl⟩⟩
  · rw [put_ar m0, has_next h0, g2 k a m hkk]
    exact or_congr Iff.rfl ⟨fun ⟨h, _⟩ => by omega, fun ⟨h, _⟩ => by omega⟩
theorem map_nm {T M : Tb} {i mm : Int} (h0 : 0 ≤ i) (m0 : 0 ≤ mm) (h : MapI T i M mm) (he : aftR T i = 0) (hk : knm (T i 0).toNat = 1) :
    MapI T (i + 1) (mput M mm (kN (kof (T i 0).toNat) (T i 1) (T i 2)) 3) (if 0 ≤ tfind M (kN (kof (T i 0).toNat) (T i 1) (T i 2)) 3 mm.toNat 0 then mm else mm + 1) := by
  have hk := knm_1 hk
  have hkof : kof (T i 0).toNat = T i 0 := by rcases hk with hk | hk <;> rw [hk] <;> rfl
  rw [hkof]
  obtain ⟨g0, g1, g2⟩ := h
  refine ⟨okI_next g0 he, fun a => ?_, fun k a m hkk => ?_⟩
  · rw [put_nm m0, made_next h0, g1]
    exact or_congr Iff.rfl ⟨fun ⟨h, _⟩ => by omega, fun ⟨h, _⟩ => by omega⟩
  · rw [put_nm m0, has_next h0, g2 k a m hkk]
    exact or_congr Iff.rfl ⟨fun ⟨h, h2, h3⟩ => ⟨h.symm, h2.symm, h3.symm⟩, fun ⟨h, h2, h3⟩ => ⟨h.symm, h2.symm, h3.symm⟩⟩
theorem map_none {T M : Tb} {i mm : Int} (h0 : 0 ≤ i) (h : MapI T i M mm) (he : aftR T i = 0) (hk : kar (T i 0).toNat ≠ 1) (hn : knm (T i 0).toNat ≠ 1) : MapI T (i + 1) M mm := by
  obtain ⟨g0, g1, g2⟩ := h
  refine ⟨okI_next g0 he, fun a => ?_, fun k a m hkk => ?_⟩
  · rw [made_next h0, g1]
    exact ⟨.inl, fun h => h.elim id fun ⟨h, _⟩ => absurd (by rw [h]; rfl) hk⟩
  · rw [has_next h0, g2 k a m hkk]
    refine ⟨.inl, fun h => h.elim id fun ⟨h, _⟩ => absurd ?_ hn⟩
    rcases hkk with rfl | rfl <;> rw [h] <;> rfl
end Go.Tt
namespace Go.Tt
open Go Go.Sx Go.Lib Go.Sf
theorem lnsW_cons (l : List UInt8) (ls : List (List UInt8)) : lnsW (l :: ls) = l ++ 10 :: lnsW ls := by simp [lnsW]
theorem lnsW_append (a b : List (List UInt8)) : lnsW (a ++ b) = lnsW a ++ lnsW b := by simp [lnsW]
theorem lnsW_nil {ls : List (List UInt8)} : lnsW ls = [] ↔ ls = [] := by
  cases ls with
  | nil => simp [lnsW]
  | cons l ls => rw [lnsW_cons]; simp
theorem first_nl : ∀ {l m x y : List UInt8}, (10 : UInt8) ∉ l → (10 : UInt8) ∉ m → l ++ 10 :: x = m ++ 10 :: y → l = m ∧ x = y
  | [], [], _, _, _, _, h => by simpa using h
  | [], c :: m, _, _, _, hm, h => by
    simp at h hm
    exact absurd h.1 hm.1
  | c :: l, [], _, _, hl, _, h => by
    simp at h hl
    exact absurd h.1.symm hl.1
  | c :: l, d :: m, _, _, hl, hm, h => by
    simp at h hl hm
    have := first_nl hl.2 hm.2 h.2
    exact ⟨by rw [h.1, this.1], this.2⟩
theorem lnsW_inj : ∀ {ls ms : List (List UInt8)}, NoNl ls → NoNl ms → lnsW ls = lnsW ms → ls = ms
  | [], ms, _, _, h => ((lnsW_nil.1 (h.symm : lnsW ms = []))).symm
  | l :: ls, [], _, _, h => by rw [lnsW_cons] at h; simp [lnsW] at h
  | l :: ls, m :: ms, hl, hm, h => by
    rw [lnsW_cons, lnsW_cons] at h
    obtain ⟨h1, h2⟩ := first_nl (hl l (by simp)) (hm m (by simp)) h
    rw [h1, lnsW_inj (fun x hx => hl x (by simp [hx])) (fun x hx => hm x (by simp [hx])) h2]
theorem split_spec : ∀ (k : Nat) (t : List UInt8), t.length = k → NoNl (Lib.split t [10]) ∧ Lib.split t [10] ≠ [] ∧ lnsW (Lib.split t [10]) = t ++ [10] ∧ (Lib.split t [10]).length = t.count 10 + 1 := by
  intro k
  induction k using Nat.strongRecOn with
  | ind k ih =>
    intro t hk
    by_cases h : (10 : UInt8) ∈ t
    · obtain ⟨w, rest, rfl, hw⟩ := List.eq_append_cons_of_mem h
      rw [split_step hw]
      obtain ⟨h1, h2, h3, h4⟩ := ih rest.length (by rw [← hk]; simp; omega) rest rfl
      refine ⟨fun x hx => ?_, by simp, by rw [lnsW_cons, h3]; simp, ?_⟩
      · rcases List.mem_cons.1 hx with rfl | hx
        · exact hw
        · exact h1 x hx
      · rw [List.length_cons, h4, List.count_append, List.count_eq_zero_of_not_mem hw, List.count_cons_self]
        omega
    · rw [split_last h]
      refine ⟨fun x hx => by rw [List.mem_singleton.1 hx]; exact h, by simp, by simp [lnsW], by rw [List.count_eq_zero_of_not_mem h]; rfl⟩
theorem suffix_nl {t : List UInt8} : Lib.hasSuffix t [10] = true ↔ ∃ u, t = u ++ [10] := by
  unfold Lib.hasSuffix
  rw [List.isSuffixOf_iff_suffix]
  exact ⟨fun ⟨u, h⟩ => ⟨u, h.symm⟩, fun ⟨u, h⟩ => ⟨u, h.symm⟩⟩
theorem lns_suffix {ls : List (List UInt8)} (h : ls ≠ []) : ∃ u, lnsW ls = u ++ [10] := by
  have e : ls = ls.dropLast ++ [ls.getLast h] := (List.dropLast_concat_getLast h).symm
  rw [e, lnsW_append]
  refine ⟨lnsW ls.dropLast ++ ls.getLast h, ?_⟩
  simp [lnsW]
theorem join_lns : ∀ {ls : List (List UInt8)}, ls ≠ [] → Lib.join ls [10] ++ [10] = lnsW ls
  | [], h => absurd rfl h
  | [w], _ => by rw [join_one]; simp [lnsW]
  | w :: x :: l, _ => by
    have ih := join_lns (ls := x :: l) (by simp)
    rw [lnsW_cons, ← ih, join_cons, join_cons]
    simp [joinTail]
theorem joinW_no : ∀ {ws : List (List UInt8)}, Bare ws → (10 : UInt8) ∉ joinW ws
  | [], _, h => by simp [joinW] at h
  | w :: l, hb, h => by
    rw [joinW_cons, List.mem_append] at h
    rcases h with h | h
    · have := (hb w (by simp)).2.2 10 h
      simp at this
    · split at h
      · cases h
      · rcases List.mem_cons.1 h with h | h
        · cases h
        · exact joinW_no (fun x hx => hb x (by simp [hx])) h
theorem man_bare : BareW wMan := by unfold BareW; decide
theorem head_bare {L A K : Int} (hL : I64 L) (hA : I64 A) (hK : I64 K) : Bare [wMan, itoa L, itoa A, itoa K] := fun w hw => by
  simp at hw
  rcases hw with rfl | rfl | rfl | rfl
  · exact man_bare
  · exact itoa_bare hL
  · exact itoa_bare hA
  · exact itoa_bare hK
theorem head_no {L A K : Int} (hL : I64 L) (hA : I64 A) (hK : I64 K) : (10 : UInt8) ∉ headW L A K := joinW_no (head_bare hL hA hK)
theorem head_inj {L A K L' A' K' : Int} (hL : I64 L) (hA : I64 A) (hK : I64 K) (hL' : I64 L') (hA' : I64 A') (hK' : I64 K') (h : headW L A K = headW L' A' K') : L = L' ∧ A = A' ∧ K = K' := by
  have := joinW_inj (head_bare hL hA hK) (head_bare hL' hA' hK') h
  simp at this
  exact ⟨itoa_inj hL hL' this.1, itoa_inj hA hA' this.2.1, itoa_inj hK hK' this.2.2⟩
theorem head_len {L A K : Int} (hL : I64 L) (hA : I64 A) (hK : I64 K) : (headW L A K).length ≤ 100 := by
  have e : headW L A K = wMan ++ 32 :: (itoa L ++ 32 :: (itoa A ++ 32 :: itoa K)) := rfl
  have l1 : wMan.length = 7 := rfl
  have := itoa_len hL
  have := itoa_len hA
  have := itoa_len hK
  rw [e]
  simp only [List.length_append, List.length_cons, l1]
  omega
theorem wMan_code : (16241110417912119 : Int) = senc wMan := by decide
theorem nl_code : (-6 : Int) = senc [10] := by decide
theorem sdec_nl : sdec (-6) = [10] := by rw [nl_code, sdec_senc]
theorem head_rows {L A K : Int} : RowsS (tupd (tupd (tupd (tupd (fun _ _ => 0) 0 0 16241110417912119) 1 0 (senc (itoa L))) 2 0 (senc (itoa A))) 3 0 (senc (itoa K))) [wMan, itoa L, itoa A, itoa K] 4 := by
  rw [rows_iff]
  simp [RS, tupd, wMan_code]
theorem head_join {L A K : Int} : joinS (tupd (tupd (tupd (tupd (fun _ _ => 0) 0 0 16241110417912119) 1 0 (senc (itoa L))) 2 0 (senc (itoa A))) 3 0 (senc (itoa K))) 4 (-17) = senc (headW L A K) := joinS_rows head_rows
theorem row_ok {T : Tb} {n r : Int} (h : OkI T n) (h0 : 0 ≤ r) (h1 : r < n) : OkP (T r 0) (T r 1) (T r 2) (T r 3) (T r 4) (T r 5) (T r 6) (T r 7) :=
  name_step (h r h0 h1)
theorem row_line {T : Tb} {n r : Int} (h : OkI T n) (hT : TbR T n) (h0 : 0 ≤ r) (h1 : r < n) : LineOf (senc (spR T r).line) (spR T r) ∧ 0 ≤ T r 0 ∧ (spR T r).line.length ≤ 200 := by
  have ho := row_ok h h0 h1
  obtain ⟨_, hx, hy, hz, _, hn⟩ := hT r h0 h1
  obtain ⟨g1, g2, g3⟩ := stepE_norm hn ho
  exact ⟨⟨g1, g2, by rw [sdec_senc]⟩, by have := (okF ho).k1; omega, line_short (okF ho) hx hy hz hn⟩
theorem prgL_next (L A K : Int) (T : Tb) (n : Nat) : prgL L A K T (n + 1) = prgL L A K T n ++ [(spR T n).line] := by
  unfold prgL
  rw [List.range_succ, List.map_append]
  simp
theorem prgL_len (L A K : Int) (T : Tb) (n : Nat) : (prgL L A K T n).length = n + 1 := by simp [prgL]
theorem prgL_ne (L A K : Int) (T : Tb) (n : Nat) : prgL L A K T n ≠ [] := by simp [prgL]
theorem prgL_mem {L A K : Int} {T : Tb} {n : Int} (hL : I64 L) (hA : I64 A) (hK : I64 K) (h : OkI T n) (hT : TbR T n) {i : Nat} (hi : (i : Int) ≤ n) : ∀ l ∈ prgL L A K T i, (10 : UInt8) ∉ l ∧ l.length ≤ 200 := fun l hl => by
  rcases List.mem_cons.1 hl with rfl | hl
  · have := head_len hL hA hK
    exact ⟨head_no hL hA hK, by omega⟩
  · obtain ⟨r, hr, rfl⟩ := List.mem_map.1 hl
    have hr := List.mem_range.1 hr
    obtain ⟨g1, _, g3⟩ := row_line h hT (r := (r : Int)) (by omega) (by omega)
    exact ⟨joinW_no (wd_bare g1.1 g1.2.1), g3⟩
theorem prgL_no {L A K : Int} {T : Tb} {n : Int} (hL : I64 L) (hA : I64 A) (hK : I64 K) (h : OkI T n) (hT : TbR T n) {i : Nat} (hi : (i : Int) ≤ n) : NoNl (prgL L A K T i) := fun l hl => (prgL_mem hL hA hK h hT hi l hl).1
theorem lnsW_len : ∀ {ls : List (List UInt8)}, (∀ l ∈ ls, l.length ≤ 200) → (lnsW ls).length ≤ 201 * ls.length
  | [], _ => by simp [lnsW]
  | l :: ls, h => by
    have := h l (by simp)
    have := lnsW_len (ls := ls) fun x hx => h x (by simp [hx])
    rw [lnsW_cons]
    simp only [List.length_append, List.length_cons]
    omega
theorem spR_eq {T T' : Tb} {r : Int} (h : ∀ c < 8, T r c = T' r c) : spR T r = spR T' r := by
  unfold spR
  rw [h 0 (by decide), h 1 (by decide), h 2 (by decide), h 3 (by decide), h 4 (by decide), h 5 (by decide), h 6 (by decide), h 7 (by decide)]
theorem prgL_eq {L A K : Int} {T T' : Tb} {n : Nat} (h : ∀ r : Nat, r < n → ∀ c < 8, T r c = T' r c) : prgL L A K T n = prgL L A K T' n := by
  unfold prgL
  congr 1
  apply List.map_congr_left
  intro r hr
  rw [spR_eq (h r (List.mem_range.1 hr))]
theorem rows_same {T T' : Tb} {r : Int} (h0 : 0 ≤ T r 0) (h1 : 0 ≤ T' r 0) (h : spR T r = spR T' r) : ∀ c < 8, T r c = T' r c := fun c hc => by
  obtain ⟨g0, g1, g2, g3, g4, g5, g6, g7⟩ := stp_inj h0 h1 h
  rcases (by omega : c = 0 ∨ c = 1 ∨ c = 2 ∨ c = 3 ∨ c = 4 ∨ c = 5 ∨ c = 6 ∨ c = 7) with rfl | rfl | rfl | rfl | rfl | rfl | rfl | rfl <;> assumption
theorem aft_eq {T T' : Tb} {i : Int} (h : ∀ r : Int, 0 ≤ r → r ≤ i → ∀ c < 8, T r c = T' r c) (h0 : 0 ≤ i) : aftR T i = aftR T' i := by
  have hm : ∀ a, Made T i a = Made T' i a := fun a => propext ⟨fun ⟨j, j0, j1, g⟩ => ⟨j, j0, j1, by rw [← h j j0 (by omega) 0 (by decide), ← h j j0 (by omega) 1 (by decide)]; exact g⟩, fun ⟨j, j0, j1, g⟩ => ⟨j, j0, j1, by rw [h j j0 (by omega) 0 (by decide), h j j0 (by omega) 1 (by decide)]; exact g⟩⟩
  have hh : ∀ k a m, Has T i k a m = Has T' i k a m := fun k a m => propext ⟨fun ⟨j, j0, j1, g⟩ => ⟨j, j0, j1, by rw [← h j j0 (by omega) 0 (by decide), ← h j j0 (by omega) 1 (by decide), ← h j j0 (by omega) 2 (by decide)]; exact g⟩, fun ⟨j, j0, j1, g⟩ => ⟨j, j0, j1, by rw [h j j0 (by omega) 0 (by decide), h j j0 (by omega) 1 (by decide), h j j0 (by omega) 2 (by decide)]; exact g⟩⟩
  have hi := h i h0 (by omega)
  unfold aftR aftE
  rw [hm, hh, hi 0 (by decide), hi 1 (by decide), hi 2 (by decide), hi 3 (by decide), hi 4 (by decide), hi 5 (by decide), hi 6 (by decide), hi 7 (by decide)]
theorem ok_eq {T T' : Tb} {n : Int} (h : ∀ r : Int, 0 ≤ r → r < n → ∀ c < 8, T r c = T' r c) (ho : OkI T n) : OkI T' n := fun j j0 j1 => by
  rw [← aft_eq (fun r r0 r1 => h r r0 (by omega)) j0]; exact ho j j0 j1
theorem chk_0 {L A K : Int} {T : Tb} {n st e : Int} (h : ChkP L A K T n st e) (hn : n ≤ 500) (hr : right L A K) (ho : OkI T n) : st = 0 ∧ e = 0 := by
  rcases h with h | h | ⟨_, _, h | ⟨h0, h1, h2, h3, _⟩⟩
  · omega
  · exact absurd hr h.2.1
  · exact ⟨h.1, h.2.1⟩
  · exact absurd (h3.trans (ho st h0 h1)) h2
theorem chk_ok {L A K : Int} {T : Tb} {n st : Int} (h : ChkP L A K T n st 0) : n ≤ 500 ∧ right L A K ∧ OkI T n ∧ st = 0 := by
  rcases h with h | h | ⟨g1, g2, h | ⟨_, _, h2, _⟩⟩
  · exact absurd h.2.2 (by decide)
  · exact absurd h.2.2.2 (by decide)
  · exact ⟨g1, g2, h.2.2, h.1⟩
  · exact absurd rfl h2
end Go.Tt
