/-
  What texts of programs are, in plain words: what the signs of the contracts' formulas mean. Conditions: none; nothing here speaks of a program.
-/
import Derived.Lib.Join
import Derived.Test.YtiehemggplndcaaGreatDoorB1
import Derived.Test.YtiehemggplndcaaGreatDoorA1
import Derived.Test.YtiehemggplndcaaGreatDoorA2
import Derived.Lib.DecodeN
import Derived.Lib.FieldsU
import Derived.KernelRfl
namespace Go.Tt
open Go Go.Sx Go.Lib Go.Sf
abbrev Tb := Int → Nat → Int
def joinS (T : Tb) (n sep : Int) : Int := senc (Lib.join ((List.range n.toNat).map fun r : Nat => sdec (T (r : Int) 0)) (sdec sep))
def splT (s sep : Int) : Tb := fun r _ => senc ((Lib.split (sdec s) (sdec sep)).getD r.toNat [])
def splN (s sep : Int) : Int := ((Lib.split (sdec s) (sdec sep)).length : Nat)
def trimS (s p : Int) : Int := senc (Lib.trimPrefix (sdec s) (sdec p))
def hpre (s p : Int) : Int := if Lib.hasPrefix (sdec s) (sdec p) = true then 1 else 0
def pintL (l : List UInt8) : Int := match parseIntB 64 l with
  | .ok v => v
  | .range => intSat 64 l
  | _ => 0
def perrL (l : List UInt8) : Int := match parseIntB 64 l with
  | .ok _ => 0
  | _ => 1
def accL (l : List UInt8) : Nat → Int
  | 0 => 0
  | i + 1 =>
    let c : Int := (((l[i]?).getD 0).toNat : Nat)
    if 48 ≤ c ∧ c ≤ 57 then
      let d := IntKind.i64.wrap (IntKind.u8.wrap (c - 48))
      IntKind.i64.wrap (IntKind.i64.wrap (10 * accL l i) + if ((((l[0]?).getD 0).toNat : Nat) : Int) = 45 then -d else d)
    else accL l i
def nameF (s : Int) : Int := if NameP (sdec s) then 1 else 0
def RowsW (T : Tb) (ws : List (List UInt8)) (n : Int) : Prop := ∀ r : Nat, (r : Int) < n → T r 0 = 0 ∧ ∀ w, ws[r]? = some w → T r 1 = senc w
def IntP (s n e : Int) : Prop := (e = 0 ∧ I64 n ∧ sdec s = itoa n) ∨ (e ≠ 0 ∧ ∀ m, I64 m → sdec s ≠ itoa m)
def EndP (s a r : Int) : Prop := sbyte s a ≠ 34 → (∀ j, a ≤ j → j < r → sbyte s j ≠ 32) ∧ (r = slen s ∨ sbyte s r = 32)
def NoB (s a i : Int) : Prop := sbyte s a ≠ 34 → ∀ j, a ≤ j → j < i → sbyte s j ≠ 32
def TextP (s b : Int) : Prop := b ≠ 0 ↔ (sdec s).length ≤ 200 ∧ ∀ c ∈ sdec s, 32 ≤ c.toNat ∧ c.toNat ≤ 126
def RightP (q s b : Int) : Prop := q = 0 → (b ≠ 0 ↔ BareW (sdec s))
def SplP (s : Int) (T : Tb) (n e : Int) : Prop :=
  (∀ ws, Bare ws → ws.length ≤ 64 → slen s ≤ 4096 → sdec s = joinW ws → e = 0 ∧ n = (ws.length : Nat) ∧ RowsW T ws n) ∧
  (e = 0 → (∀ r : Nat, (r : Int) < n → T r 0 = 0) → ∃ ws, Bare ws ∧ ws.length ≤ 64 ∧ n = (ws.length : Nat) ∧ sdec s = joinW ws ∧ RowsW T ws n)
def SplI (s a : Int) (T : Tb) (n : Int) : Prop := ∀ ws, Bare ws → sdec s = joinW ws → ∃ k : Nat, n = k ∧ k ≤ ws.length ∧ RowsW T ws n ∧ (if k < ws.length then (sdec s).drop a.toNat = joinW (ws.drop k) ∧ a < slen s else slen s ≤ a)
def SplJ (s a : Int) (T : Tb) (n : Int) : Prop := (∀ r : Nat, (r : Int) < n → T r 0 = 0) → ∃ ws, Bare ws ∧ n = (ws.length : Nat) ∧ RowsW T ws n ∧
  ((a = 0 ∧ ws = []) ∨ (0 < a ∧ a < slen s ∧ (sdec s).take a.toNat = preW ws) ∨ (a = slen s + 1 ∧ sdec s = joinW ws))
def dep (n : Int) : Nat := 2 * nDigits n.natAbs + if n < 0 then 1 else 0
def Short (T : Tb) (n sep : Int) : Prop := n ≤ 1000 ∧ slen sep ≤ 1000 ∧ ∀ r : Nat, (r : Int) < n → slen (T r 0) ≤ 1000
def FieldP (T : Tb) (lo n bad s lo' n' bad' : Int) : Prop :=
  (0 < n ∧ T lo 0 = 0 ∧ s = T lo 1 ∧ lo' = lo + 1 ∧ n' = n - 1 ∧ bad' = bad) ∨ (¬ (0 < n ∧ T lo 0 = 0) ∧ s = 0 ∧ lo' = lo ∧ n' = n ∧ bad' = 1)
def NumP (T : Tb) (lo n bad x lo' n' bad' : Int) : Prop :=
  ∃ s b e, FieldP T lo n bad s lo' n' b ∧ IntP s x e ∧ bad' = if b ≠ 0 ∨ e ≠ 0 then 1 else 0
def stp (k a m x y z w n : Int) : Sp := ⟨k.toNat, sdec a, sdec m, x, y, z, w, n⟩
def StepP (k a m x y z w n e : Int) : Prop := e = stepE k (sdec a) (sdec m) x y z w n
def LineP (k a m x y z w n s : Int) : Prop := stepE k (sdec a) (sdec m) x y z w n = 0 → s = senc (stp k a m x y z w n).line
def RawP (s k a m x y z w n b : Int) : Prop :=
  (b ≠ 0 ∧ 0 ≤ k ∧ (stp k a m x y z w n).Norm ∧ (stp k a m x y z w n).NB ∧ sdec s = (stp k a m x y z w n).line) ∨
  (b = 0 ∧ ∀ t : Sp, t.Norm → t.NB → sdec s ≠ t.line)
def IxI (s v q u : Int) : Prop := v = 0 → (∀ j, 0 ≤ j → j < q → sbyte s j < 128 ∧ sbyte s j ≠ 34) → u = 0 ∧ ∀ j, 0 ≤ j → j < q → sbyte s j ≠ 32
def IxP (s v r u : Int) : Prop := (r = -1 ∧ IxI s v (slen s) u) ∨ (0 ≤ r ∧ r < slen s ∧ sbyte s r = 32 ∧ IxI s v r u)
def PcI (s r v : Int) (T : Tb) (n : Int) : Prop :=
  (∀ ws, Bare ws → sdec s = joinW ws → ∃ k : Nat, n = k ∧ k < ws.length ∧ RowsW T ws n ∧ v = 0 ∧ sdec r = joinW (ws.drop k)) ∧
  ((∀ r : Nat, (r : Int) < n → T r 0 = 0) → v = 0 ∧ ∃ ws, Bare ws ∧ n = (ws.length : Nat) ∧ RowsW T ws n ∧ sdec s = preW ws ++ sdec r)
def hsuf (s p : Int) : Int := if Lib.hasSuffix (sdec s) (sdec p) = true then 1 else 0
def cntB (s c : Int) : Int := ((sdec s).count (UInt8.ofNat c.toNat) : Nat)
def hasB (s c : Int) : Int := if UInt8.ofNat c.toNat ∈ sdec s then 1 else 0
def PrnP (s l b : Int) : Prop := b ≠ 0 ↔ ∀ c ∈ sdec s, l ≤ (c.toNat : Nat) ∧ c.toNat ≤ 126
def PrnI (s l i : Int) : Prop := ∀ j, 0 ≤ j → j < i → l ≤ sbyte s j ∧ sbyte s j ≤ 126
def LetI (c : Int) : Prop := (97 ≤ c ∧ c ≤ 122) ∨ (65 ≤ c ∧ c ≤ 90)
def NamI (c : Int) : Prop := LetI c ∨ (48 ≤ c ∧ c ≤ 57) ∨ c = 95
def NmI (s i : Int) : Prop := ∀ j, 0 ≤ j → j < i → NamI (sbyte s j) ∧ (j = 0 → LetI (sbyte s j))
def OkP (k a m x y z w n : Int) : Prop := stepE k (sdec a) (sdec m) x y z w n = 0
def eR (T : Tb) (r : Int) : Int := stepE (T r 0) (sdec (T r 1)) (sdec (T r 2)) (T r 3) (T r 4) (T r 5) (T r 6) (T r 7)
def spR (T : Tb) (r : Int) : Sp := stp (T r 0) (T r 1) (T r 2) (T r 3) (T r 4) (T r 5) (T r 6) (T r 7)
def TbR (T : Tb) (n : Int) : Prop := ∀ r, 0 ≤ r → r < n → I64 (T r 0) ∧ I64 (T r 3) ∧ I64 (T r 4) ∧ I64 (T r 5) ∧ I64 (T r 6) ∧ I64 (T r 7)
def TbOk (T : Tb) (n : Int) : Prop := TbR T n ∧ ∀ r, 0 ≤ r → r < n → slen (T r 1) ≤ 100000 ∧ slen (T r 2) ≤ 100000
def Has (T : Tb) (i k a m : Int) : Prop := ∃ j, 0 ≤ j ∧ j < i ∧ T j 0 = k ∧ T j 1 = a ∧ T j 2 = m
def Made (T : Tb) (i a : Int) : Prop := ∃ j, 0 ≤ j ∧ j < i ∧ T j 0 = 1 ∧ T j 1 = a
def kof : Nat → Int
  | 3 | 7 | 8 => 3
  | 4 | 5 => 4
  | _ => 0
open Classical in
noncomputable def nameE (A N : Prop) (k e : Int) : Int :=
  if e ≠ 0 then e
  else if (kar k.toNat = 1 ∧ A) ∨ (knm k.toNat = 1 ∧ N) then 8
  else if (kar k.toNat = 2 ∧ ¬ A) ∨ (knm k.toNat = 2 ∧ ¬ N) then 4 else 0
noncomputable def aftE (T : Tb) (i k a m x y z w n : Int) : Int := nameE (Made T i a) (Has T i (kof k.toNat) a m) k (stepE k (sdec a) (sdec m) x y z w n)
noncomputable def aftR (T : Tb) (i : Int) : Int := aftE T i (T i 0) (T i 1) (T i 2) (T i 3) (T i 4) (T i 5) (T i 6) (T i 7)
def OkI (T : Tb) (i : Int) : Prop := ∀ j, 0 ≤ j → j < i → aftR T j = 0
def InM (M : Tb) (m k a b : Int) : Prop := ∃ r, 0 ≤ r ∧ r < m ∧ M r 0 = k ∧ M r 1 = a ∧ M r 2 = b
def ChkM (M : Tb) (mm k a m x y z w n e : Int) : Prop := e = nameE (InM M mm 1 a 0) (InM M mm (kof k.toNat) a m) k (stepE k (sdec a) (sdec m) x y z w n)
def MapI (T : Tb) (i : Int) (M : Tb) (mm : Int) : Prop := OkI T i ∧ (∀ a, InM M mm 1 a 0 ↔ Made T i a) ∧ ∀ k a m, k = 3 ∨ k = 4 → (InM M mm k a m ↔ Has T i k a m)
def right (L A K : Int) : Prop := (0 ≤ L ∧ L ≤ 4096) ∧ (0 ≤ A ∧ A ≤ 1000000000000) ∧ (0 ≤ K ∧ K ≤ 1024)
def ChkP (L A K : Int) (T : Tb) (n st e : Int) : Prop :=
  (500 < n ∧ st = -1 ∧ e = 3) ∨ (n ≤ 500 ∧ ¬ right L A K ∧ st = -1 ∧ e = 7) ∨
  (n ≤ 500 ∧ right L A K ∧ ((st = 0 ∧ e = 0 ∧ OkI T n) ∨ (0 ≤ st ∧ st < n ∧ e ≠ 0 ∧ e = aftR T st ∧ OkI T st)))
def AftP (T : Tb) (i k a m x y z w n e : Int) : Prop := e = aftE T i k a m x y z w n
def MadeP (T : Tb) (n a b : Int) : Prop := b ≠ 0 ↔ Made T n a
def FindP (T : Tb) (n k a m r : Int) : Prop := 0 ≤ r ↔ Has T n k a m
def LnP (k a m x y z w n s e : Int) : Prop := e = stepE k (sdec a) (sdec m) x y z w n ∧ (e = 0 → s = senc (stp k a m x y z w n).line) ∧ (e ≠ 0 → s = 0)
def RowsS (T : Tb) (ws : List (List UInt8)) (n : Int) : Prop := n = (ws.length : Nat) ∧ ∀ (r : Nat) (w : List UInt8), ws[r]? = some w → T r 0 = senc w
def WdsP (s : Int) (T : Tb) (n b : Int) : Prop :=
  (b ≠ 0 → ∃ ws, Bare ws ∧ ws.length ≤ 64 ∧ sdec s = joinW ws ∧ RowsS T ws n) ∧ (b = 0 → ∀ ws, Bare ws → ws.length ≤ 64 → slen s ≤ 4096 → sdec s ≠ joinW ws)
def WdsI (T : Tb) (i : Int) (U : Tb) (m : Int) : Prop := m = i ∧ ∀ r : Nat, (r : Int) < i → T r 0 = 0 ∧ U r 0 = T r 1
def KwI (T : Tb) (q k : Int) : Prop := (k = 0 ∧ ∀ j : Nat, 1 ≤ j → (j : Int) < q → T 0 0 ≠ senc (kw.getD j [])) ∨ (1 ≤ k ∧ k < q ∧ T 0 0 = senc (kw.getD k.toNat []))
def IntOk (s x : Int) : Prop := I64 x ∧ sdec s = itoa x
def NumsI (T : Tb) (lo i x y z : Int) : Prop := (if 0 < i then IntOk (T lo 0) x else x = 0) ∧ (if 1 < i then IntOk (T (lo + 1) 0) y else y = 0) ∧ (if 2 < i then IntOk (T (lo + 2) 0) z else z = 0)
def wMan : List UInt8 := [109, 97, 110, 97, 103, 101, 114]
def headW (L A K : Int) : List UInt8 := joinW [wMan, itoa L, itoa A, itoa K]
def HeadP (s L A K b : Int) : Prop :=
  (b ≠ 0 ∧ I64 L ∧ I64 A ∧ I64 K ∧ sdec s = headW L A K) ∨ (b = 0 ∧ ∀ L A K, I64 L → I64 A → I64 K → sdec s ≠ headW L A K)
def LineOf (s : Int) (t : Sp) : Prop := t.Norm ∧ t.NB ∧ sdec s = t.line
def PLineP (s k a m x y z w n e : Int) : Prop :=
  (∃ t : Sp, LineOf s t ∧ e = stepE t.k t.a t.m t.x t.y t.z t.w t.n ∧ (e = 0 → 0 ≤ k ∧ stp k a m x y z w n = t) ∧ (e ≠ 0 → k = 0 ∧ a = 0 ∧ m = 0 ∧ x = 0 ∧ y = 0 ∧ z = 0 ∧ w = 0 ∧ n = 0)) ∨
  ((∀ t : Sp, ¬ LineOf s t) ∧ e = 6 ∧ k = 0 ∧ a = 0 ∧ m = 0 ∧ x = 0 ∧ y = 0 ∧ z = 0 ∧ w = 0 ∧ n = 0)
def lnsW (ls : List (List UInt8)) : List UInt8 := ls.flatMap fun l => l ++ [10]
def NoNl (ls : List (List UInt8)) : Prop := ∀ l ∈ ls, (10 : UInt8) ∉ l
def LinesP (s : Int) (T : Tb) (n e : Int) : Prop :=
  (∃ ls, NoNl ls ∧ sdec s = lnsW ls ∧ ((ls.length ≤ 5000 ∧ e = 0 ∧ RowsS T ls n) ∨ (5000 < ls.length ∧ e = 3 ∧ n = 0))) ∨ ((∀ ls, NoNl ls → sdec s ≠ lnsW ls) ∧ e = 6 ∧ n = 0)
def LinesI (s p i : Int) (T : Tb) (n : Int) : Prop := ∃ ls, NoNl ls ∧ (sdec s).take p.toNat = lnsW ls ∧ RowsS T ls n ∧ ∀ j, p ≤ j → j < i → sbyte s j ≠ 10
def prgL (L A K : Int) (T : Tb) (n : Nat) : List (List UInt8) := headW L A K :: (List.range n).map fun r : Nat => (spR T r).line
def PrintP (L A K : Int) (T : Tb) (n s e : Int) : Prop := (∃ st, ChkP L A K T n st e) ∧ (e = 0 → s = senc (lnsW (prgL L A K T n.toNat))) ∧ (e ≠ 0 → s = 0)
def PrI (L A K : Int) (T : Tb) (i : Int) (U : Tb) (m : Int) : Prop := RowsS U (prgL L A K T i.toNat) m
def PrJ (L A K : Int) (T : Tb) (i s : Int) : Prop := s = senc (lnsW (prgL L A K T i.toNat))
def RowsL (T : Tb) (ls : List (List UInt8)) : Prop := ∀ (r : Nat) (l : List UInt8), ls[r]? = some l → 0 ≤ T r 0 ∧ LineOf (senc l) (spR T r)
def Zero3 (L A K n : Int) : Prop := L = 0 ∧ A = 0 ∧ K = 0 ∧ n = 0
def ParseP (s L A K : Int) (T : Tb) (n line e : Int) : Prop :=
  (∃ h ls st, NoNl (h :: ls) ∧ sdec s = lnsW (h :: ls) ∧ ls.length < 5000 ∧ ∃ L' A' K' T', I64 L' ∧ I64 A' ∧ I64 K' ∧ h = headW L' A' K' ∧ RowsL T' ls ∧ ChkP L' A' K' T' (ls.length : Nat) st e ∧
    ((e = 0 ∧ L = L' ∧ A = A' ∧ K = K' ∧ n = (ls.length : Nat) ∧ (∀ r : Nat, r < ls.length → ∀ c < 8, T r c = T' r c) ∧ line = 0) ∨ (e ≠ 0 ∧ Zero3 L A K n ∧ line = st + 2))) ∨
  (∃ h ls i, NoNl (h :: ls) ∧ sdec s = lnsW (h :: ls) ∧ ls.length < 5000 ∧ (∃ L' A' K', I64 L' ∧ I64 A' ∧ I64 K' ∧ h = headW L' A' K') ∧ (∃ T', RowsL T' (ls.take i)) ∧ (∃ l, ls[i]? = some l ∧ ∀ t, ¬ LineOf (senc l) t) ∧ e = 6 ∧ Zero3 L A K n ∧ line = i + 2) ∨
  (∃ ls, NoNl ls ∧ sdec s = lnsW ls ∧ ls.length ≤ 5000 ∧ (∀ h, ls.head? = some h → ∀ L' A' K', I64 L' → I64 A' → I64 K' → h ≠ headW L' A' K') ∧ e = 6 ∧ Zero3 L A K n ∧ line = 1) ∨
  (∃ ls, NoNl ls ∧ sdec s = lnsW ls ∧ 5000 < ls.length ∧ e = 3 ∧ Zero3 L A K n ∧ line = 0) ∨
  ((∀ ls, NoNl ls → sdec s ≠ lnsW ls) ∧ e = 6 ∧ Zero3 L A K n ∧ line = 0)
def ParI (U : Tb) (T : Tb) (i : Int) : Prop := ∀ r : Nat, (r : Int) < i → 0 ≤ T r 0 ∧ LineOf (U (r + 1) 0) (spR T r)
def SameP (L A K : Int) (T : Tb) (n L' A' K' : Int) (T' : Tb) (n' b : Int) : Prop := b ≠ 0 ↔ L = L' ∧ A = A' ∧ K = K' ∧ n = n' ∧ ∀ r : Nat, (r : Int) < n → ∀ c < 8, T r c = T' r c
def SameI (T T' : Tb) (i : Int) : Prop := ∀ r : Nat, (r : Int) < i → ∀ c < 8, T r c = T' r c
def FarP (T : Tb) (n b : Int) : Prop := b = 0 → (n ≤ 60 ∨ 500 < n) ∧ n ≤ 600 ∧ ∀ r, 0 ≤ r → r < n → slen (T r 1) ≤ 100 ∧ slen (T r 2) ≤ 100
def FarI (T : Tb) (i : Int) : Prop := ∀ r, 0 ≤ r → r < i → slen (T r 1) ≤ 100 ∧ slen (T r 2) ≤ 100
def u1 (k : Nat) : Int := if kar k = 0 then 23 else if kar k = 1 then -56 else 56
def u2 (k : Nat) : Int := if knm k = 0 then 23 else if knm k = 1 then (if k = 3 then -12728 else -14136) else if k = 5 then 14136 else 12728
def TabP (T : Tb) : Prop := ∀ k : Nat, 1 ≤ k → k ≤ 13 → T k 0 = senc (kw.getD k []) ∧ T k 1 = u1 k ∧ T k 2 = u2 k ∧ T k 3 = (knum k : Nat)
def NbI (s i : Int) : Prop := ∀ j, 0 ≤ j → j < i → sbyte s j ≠ 32 ∧ sbyte s j ≠ 34
def DigI (s i : Int) : Prop := ∀ j, 0 ≤ j → j < i → 48 ≤ sbyte s j ∧ sbyte s j ≤ 57
def AnyP (T : Tb) (lo n b : Int) : Prop := b ≠ 0 ↔ ∃ j, lo ≤ j ∧ j < lo + n ∧ T j 0 ≠ 0
def BigA (T : Tb) (lo n b : Int) : Prop := b ≠ 0 ↔ ∃ j, lo ≤ j ∧ j < lo + n ∧ Big (T j 0)
def AnyI (T : Tb) (lo i : Int) : Prop := ∀ j, lo ≤ j → j < lo + i → T j 0 = 0
def BigI (T : Tb) (lo i : Int) : Prop := ∀ j, lo ≤ j → j < lo + i → ¬ Big (T j 0)
def TIfn (j : Nat) (a b c _d : D) : D :=
  match j with
  | 3 => .i (senc (itoa a.int))
  | 5 => .i (joinS a.tab b.int c.int)
  | 6 => .t (splT a.int b.int)
  | 7 => .i (splN a.int b.int)
  | 8 => .i (trimS a.int b.int)
  | 9 => .i (hpre a.int b.int)
  | 10 => .i (pintL (sdec a.int))
  | 11 => .i (perrL (sdec a.int))
  | 12 => .i (accL (sdec a.int) b.int.toNat)
  | 13 => .i (hsuf a.int b.int)
  | 14 => .i (cntB a.int b.int)
  | 15 => .i (hasB a.int b.int)
  | 20 => .i (nameF a.int)
  | _ => .i 0
def TIpr (N : Nat) (j : Nat) (l : List D) : Prop :=
  match j, l with
  | 10, [.i s, .i n, .i e] => IntP s n e
  | 11, [.i s, .i b] => ∀ m, I64 m → sdec s = itoa m → b ≠ 0
  | 12, [.i s, .i a, .i r] => EndP s a r
  | 13, [.i s, .i a, .i i] => NoB s a i
  | 14, [.i s, .i b] => TextP s b
  | 15, [.i q, .i s, .i b] => RightP q s b
  | 16, [.i s, .t T, .i n, .i e] => SplP s T n e
  | 17, [.i s, .i a, .t T, .i n] => SplI s a T n ∧ SplJ s a T n
  | 20, [.i n] => dep n < N
  | 21, [.i n] => dep n ≤ N
  | 22, [.t T, .i n] => ∀ r : Int, 0 ≤ r → r < n → slen (T r 1) ≤ 100000
  | 30, [.t T, .i n, .i sep] => Short T n sep
  | 31, [.i k, .i a, .i m, .i x, .i y, .i z, .i w, .i n, .i e] => StepP k a m x y z w n e
  | 32, [.i k, .i a, .i m, .i x, .i y, .i z, .i w, .i n, .i s] => LineP k a m x y z w n s
  | 33, [.t T, .i lo, .i n, .i b, .i s, .i lo', .i n', .i b'] => FieldP T lo n b s lo' n' b'
  | 34, [.i s, .i k, .i a, .i m, .i x, .i y, .i z, .i w, .i n, .i b] => RawP s k a m x y z w n b
  | 35, [.i s, .i v, .i r, .i u] => IxP s v r u
  | 36, [.i s, .i v, .i q, .i u] => IxI s v q u
  | 37, [.i s, .i r, .i v, .t T, .i n] => PcI s r v T n
  | 38, [.t T, .i lo, .i n, .i b, .i x, .i lo', .i n', .i b'] => NumP T lo n b x lo' n' b'
  | 23, [.t T, .i n] => ∀ r : Int, 0 ≤ r → r < n → slen (T r 0) ≤ 100000
  | 40, [.i s, .i i] => NmI s i
  | 41, [.i s, .i l, .i b] => PrnP s l b
  | 42, [.i s, .i l, .i i] => PrnI s l i
  | 43, [.i k, .i a, .i m, .i x, .i y, .i z, .i w, .i n] => OkP k a m x y z w n
  | 44, [.i L, .i A, .i K, .t T, .i n, .i st, .i e] => ChkP L A K T n st e
  | 45, [.t T, .i n] => TbOk T n
  | 46, [.t M, .i q, .i k, .i a, .i m, .i x, .i y, .i z, .i w, .i n, .i e] => ChkM M q k a m x y z w n e
  | 47, [.t T, .i i, .t M, .i q] => MapI T i M q
  | 48, [.t T, .i i] => OkI T i
  | 49, [.t T, .i i, .i k, .i a, .i m, .i x, .i y, .i z, .i w, .i n, .i e] => AftP T i k a m x y z w n e
  | 50, [.t T, .i n, .i a, .i b] => MadeP T n a b
  | 51, [.t T, .i i, .i a] => ¬ Made T i a
  | 52, [.t T, .i n, .i k, .i a, .i m, .i r] => FindP T n k a m r
  | 53, [.t T, .i i, .i k, .i a, .i m] => ¬ Has T i k a m
  | 54, [.i k, .i a, .i m, .i x, .i y, .i z, .i w, .i n, .i s, .i e] => LnP k a m x y z w n s e
  | 55, [.i s, .t T, .i n, .i b] => WdsP s T n b
  | 56, [.t T, .i i, .t U, .i m] => WdsI T i U m
  | 57, [.t T, .i q, .i k] => KwI T q k
  | 58, [.t T, .i lo, .i i, .i x, .i y, .i z] => NumsI T lo i x y z
  | 59, [.i s, .i L, .i A, .i K, .i b] => HeadP s L A K b
  | 60, [.i s, .i k, .i a, .i m, .i x, .i y, .i z, .i w, .i n, .i e] => PLineP s k a m x y z w n e
  | 61, [.i s, .t T, .i n, .i e] => LinesP s T n e
  | 62, [.i s, .i p, .i i, .t T, .i n] => LinesI s p i T n
  | 63, [.i L, .i A, .i K, .t T, .i n, .i s, .i e] => PrintP L A K T n s e
  | 64, [.i L, .i A, .i K, .t T, .i i, .t U, .i m] => PrI L A K T i U m
  | 65, [.i L, .i A, .i K, .t T, .i i, .i s] => PrJ L A K T i s
  | 66, [.i s, .i L, .i A, .i K, .t T, .i n, .i l, .i e] => ParseP s L A K T n l e
  | 67, [.i L, .i A, .i K, .t T, .i n, .i L', .i A', .i K', .t T', .i n', .i b] => SameP L A K T n L' A' K' T' n' b
  | 68, [.t T, .t U, .i i] => SameI T U i
  | 69, [.t T, .i n, .i b] => FarP T n b
  | 70, [.t T, .i i] => FarI T i
  | 71, [.t T, .i n] => TbR T n
  | 72, [.t U, .t T, .i i] => ParI U T i
  | 73, [.i s, .i i] => DigI s i
  | 74, [.i s, .i i] => NbI s i
  | 80, [.t T] => TabP T
  | 81, [.t T, .i a, .i n, .i b] => AnyP T a n b
  | 82, [.t T, .i a, .i n, .i b] => BigA T a n b
  | 83, [.t T, .i a, .i i] => AnyI T a i
  | 84, [.t T, .i a, .i i] => BigI T a i
  | _, _ => False
def TI (N : Nat) : Itp where
  fn j a b c d := some (TIfn j a b c d)
  pr := TIpr N
variable {N : Nat}
theorem TI_tot : (TI N).tot ttS := by
  intro j s hs a b c d
  unfold Itp.ap
  unfold ttS at hs
  split at hs <;> cases hs
  all_goals first
    | exact ⟨_, (if_neg (by decide)).trans rfl, trivial⟩
    | exact ⟨_, (if_pos (by decide)).trans rfl, trivial⟩
section signs
variable {a b c d x y z u v w p q : Int} {T : Tb}
theorem S3 : (TI N).ap 3 (.i a) (.i b) (.i c) (.i d) = some (.i (senc (itoa a))) := rfl
theorem S5 : (TI N).ap 5 (.t T) (.i b) (.i c) (.i d) = some (.i (joinS T b c)) := rfl
theorem S6 : (TI N).ap 6 (.i a) (.i b) (.i c) (.i d) = some (.t (splT a b)) := rfl
theorem S7 : (TI N).ap 7 (.i a) (.i b) (.i c) (.i d) = some (.i (splN a b)) := rfl
theorem S8 : (TI N).ap 8 (.i a) (.i b) (.i c) (.i d) = some (.i (trimS a b)) := rfl
theorem S9 : (TI N).ap 9 (.i a) (.i b) (.i c) (.i d) = some (.i (hpre a b)) := rfl
theorem S10 : (TI N).ap 10 (.i a) (.i b) (.i c) (.i d) = some (.i (pintL (sdec a))) := rfl
theorem S11 : (TI N).ap 11 (.i a) (.i b) (.i c) (.i d) = some (.i (perrL (sdec a))) := rfl
theorem S12 : (TI N).ap 12 (.i a) (.i b) (.i c) (.i d) = some (.i (accL (sdec a) b.toNat)) := rfl
theorem S20 : (TI N).ap 20 (.i a) (.i b) (.i c) (.i d) = some (.i (nameF a)) := rfl
theorem S1000 : (TI N).ap 1000 (.i a) (.i b) (.i c) (.i d) = some (.i (if a ≠ 0 then b else c)) := rfl
theorem S1001 : (TI N).ap 1001 (.i a) (.i b) (.i c) (.i d) = some (.i (slen a)) := rfl
theorem S1002 : (TI N).ap 1002 (.i a) (.i b) (.i c) (.i d) = some (.i (scat a b)) := rfl
theorem S1003 : (TI N).ap 1003 (.i a) (.i b) (.i c) (.i d) = some (.i (ssub a b c)) := rfl
theorem S1004 : (TI N).ap 1004 (.i a) (.i b) (.i c) (.i d) = some (.i (sbyte a b)) := rfl
theorem S1005 : (TI N).ap 1005 (.t T) (.i b) (.i c) (.i d) = some (.i (scode T b)) := rfl
theorem S1010 : (TI N).ap 1010 (.i a) (.i b) (.i c) (.i d) = some (.i (srune a b)) := rfl
theorem S1011 : (TI N).ap 1011 (.i a) (.i b) (.i c) (.i d) = some (.i (swidth a b)) := rfl
theorem P10 : (TI N).pr 10 [.i a, .i b, .i c] = IntP a b c := rfl
theorem P11 : (TI N).pr 11 [.i a, .i b] = ∀ m, I64 m → sdec a = itoa m → b ≠ 0 := rfl
theorem P12 : (TI N).pr 12 [.i a, .i b, .i c] = EndP a b c := rfl
theorem P13 : (TI N).pr 13 [.i a, .i b, .i c] = NoB a b c := rfl
theorem P14 : (TI N).pr 14 [.i a, .i b] = TextP a b := rfl
theorem P15 : (TI N).pr 15 [.i a, .i b, .i c] = RightP a b c := rfl
theorem P16 : (TI N).pr 16 [.i a, .t T, .i b, .i c] = SplP a T b c := rfl
theorem P17 : (TI N).pr 17 [.i a, .i b, .t T, .i c] = (SplI a b T c ∧ SplJ a b T c) := rfl
theorem P20 : (TI N).pr 20 [.i a] = (dep a < N) := rfl
theorem P21 : (TI N).pr 21 [.i a] = (dep a ≤ N) := rfl
theorem P22 : (TI N).pr 22 [.t T, .i b] = ∀ r : Int, 0 ≤ r → r < b → slen (T r 1) ≤ 100000 := rfl
theorem P30 : (TI N).pr 30 [.t T, .i b, .i c] = Short T b c := rfl
theorem P31 : (TI N).pr 31 [.i a, .i b, .i c, .i d, .i x, .i y, .i z, .i u, .i v] = StepP a b c d x y z u v := rfl
theorem P32 : (TI N).pr 32 [.i a, .i b, .i c, .i d, .i x, .i y, .i z, .i u, .i v] = LineP a b c d x y z u v := rfl
theorem P33 : (TI N).pr 33 [.t T, .i a, .i b, .i c, .i d, .i x, .i y, .i z] = FieldP T a b c d x y z := rfl
theorem P34 : (TI N).pr 34 [.i a, .i b, .i c, .i d, .i x, .i y, .i z, .i u, .i v, .i w] = RawP a b c d x y z u v w := rfl
theorem P35 : (TI N).pr 35 [.i a, .i b, .i c, .i d] = IxP a b c d := rfl
theorem P36 : (TI N).pr 36 [.i a, .i b, .i c, .i d] = IxI a b c d := rfl
theorem P37 : (TI N).pr 37 [.i a, .i b, .i c, .t T, .i d] = PcI a b c T d := rfl
theorem P38 : (TI N).pr 38 [.t T, .i a, .i b, .i c, .i d, .i x, .i y, .i z] = NumP T a b c d x y z := rfl
theorem S13 : (TI N).ap 13 (.i a) (.i b) (.i c) (.i d) = some (.i (hsuf a b)) := rfl
theorem S14 : (TI N).ap 14 (.i a) (.i b) (.i c) (.i d) = some (.i (cntB a b)) := rfl
theorem S15 : (TI N).ap 15 (.i a) (.i b) (.i c) (.i d) = some (.i (hasB a b)) := rfl
theorem S1008 {U : Tb} : (TI N).ap 1008 (.t T) (.i b) (.t U) (.i d) = some (.i (tfind T U d.toNat b.toNat 0)) := rfl
theorem S1009 {U : Tb} : (TI N).ap 1009 (.t T) (.i b) (.t U) (.i d) = some (.t (mput T b U d.toNat)) := rfl
theorem P23 : (TI N).pr 23 [.t T, .i a] = (∀ r : Int, 0 ≤ r → r < a → slen (T r 0) ≤ 100000) := rfl
theorem P40 : (TI N).pr 40 [.i a, .i b] = NmI a b := rfl
theorem P41 : (TI N).pr 41 [.i a, .i b, .i c] = PrnP a b c := rfl
theorem P42 : (TI N).pr 42 [.i a, .i b, .i c] = PrnI a b c := rfl
theorem P43 : (TI N).pr 43 [.i a, .i b, .i c, .i d, .i x, .i y, .i z, .i u] = OkP a b c d x y z u := rfl
theorem P44 : (TI N).pr 44 [.i a, .i b, .i c, .t T, .i d, .i x, .i y] = ChkP a b c T d x y := rfl
theorem P45 : (TI N).pr 45 [.t T, .i a] = TbOk T a := rfl
theorem P46 : (TI N).pr 46 [.t T, .i a, .i b, .i c, .i d, .i x, .i y, .i z, .i u, .i v, .i w] = ChkM T a b c d x y z u v w := rfl
theorem P47 {U : Tb} : (TI N).pr 47 [.t T, .i a, .t U, .i b] = MapI T a U b := rfl
theorem P48 : (TI N).pr 48 [.t T, .i a] = OkI T a := rfl
theorem P49 : (TI N).pr 49 [.t T, .i a, .i b, .i c, .i d, .i x, .i y, .i z, .i u, .i v, .i w] = AftP T a b c d x y z u v w := rfl
theorem P50 : (TI N).pr 50 [.t T, .i a, .i b, .i c] = MadeP T a b c := rfl
theorem P51 : (TI N).pr 51 [.t T, .i a, .i b] = (¬ Made T a b) := rfl
theorem P52 : (TI N).pr 52 [.t T, .i a, .i b, .i c, .i d, .i x] = FindP T a b c d x := rfl
theorem P53 : (TI N).pr 53 [.t T, .i a, .i b, .i c, .i d] = (¬ Has T a b c d) := rfl
theorem P54 : (TI N).pr 54 [.i a, .i b, .i c, .i d, .i x, .i y, .i z, .i u, .i v, .i w] = LnP a b c d x y z u v w := rfl
theorem P55 : (TI N).pr 55 [.i a, .t T, .i b, .i c] = WdsP a T b c := rfl
theorem P56 {U : Tb} : (TI N).pr 56 [.t T, .i a, .t U, .i b] = WdsI T a U b := rfl
theorem P57 : (TI N).pr 57 [.t T, .i a, .i b] = KwI T a b := rfl
theorem P58 : (TI N).pr 58 [.t T, .i a, .i b, .i c, .i d, .i x] = NumsI T a b c d x := rfl
theorem P59 : (TI N).pr 59 [.i a, .i b, .i c, .i d, .i x] = HeadP a b c d x := rfl
theorem P60 : (TI N).pr 60 [.i a, .i b, .i c, .i d, .i x, .i y, .i z, .i u, .i v, .i w] = PLineP a b c d x y z u v w := rfl
theorem P61 : (TI N).pr 61 [.i a, .t T, .i b, .i c] = LinesP a T b c := rfl
theorem P62 : (TI N).pr 62 [.i a, .i b, .i c, .t T, .i d] = LinesI a b c T d := rfl
theorem P63 : (TI N).pr 63 [.i a, .i b, .i c, .t T, .i d, .i x, .i y] = PrintP a b c T d x y := rfl
theorem P64 {U : Tb} : (TI N).pr 64 [.i a, .i b, .i c, .t T, .i d, .t U, .i x] = PrI a b c T d U x := rfl
theorem P65 : (TI N).pr 65 [.i a, .i b, .i c, .t T, .i d, .i x] = PrJ a b c T d x := rfl
theorem P66 : (TI N).pr 66 [.i a, .i b, .i c, .i d, .t T, .i x, .i y, .i z] = ParseP a b c d T x y z := rfl
theorem P67 {U : Tb} : (TI N).pr 67 [.i a, .i b, .i c, .t T, .i d, .i x, .i y, .i z, .t U, .i u, .i v] = SameP a b c T d x y z U u v := rfl
theorem P68 {U : Tb} : (TI N).pr 68 [.t T, .t U, .i a] = SameI T U a := rfl
theorem P69 : (TI N).pr 69 [.t T, .i a, .i b] = FarP T a b := rfl
theorem P70 : (TI N).pr 70 [.t T, .i a] = FarI T a := rfl
theorem P71 : (TI N).pr 71 [.t T, .i a] = TbR T a := rfl
theorem P72 {U : Tb} : (TI N).pr 72 [.t T, .t U, .i a] = ParI T U a := rfl
theorem P80 : (TI N).pr 80 [.t T] = TabP T := rfl
theorem P73 : (TI N).pr 73 [.i a, .i b] = DigI a b := rfl
theorem P74 : (TI N).pr 74 [.i a, .i b] = NbI a b := rfl
theorem P81 : (TI N).pr 81 [.t T, .i a, .i b, .i c] = AnyP T a b c := rfl
theorem P82 : (TI N).pr 82 [.t T, .i a, .i b, .i c] = BigA T a b c := rfl
theorem P83 : (TI N).pr 83 [.t T, .i a, .i b] = AnyI T a b := rfl
theorem P84 : (TI N).pr 84 [.t T, .i a, .i b] = BigI T a b := rfl
end signs
theorem sbyte_at {s : Int} {a i : Nat} {w t : List UInt8} (h : (sdec s).drop a = w ++ t) (hi : i < w.length) : sbyte s ((a + i : Nat) : Int) = (w[i].toNat : Nat) := by
  unfold sbyte
  have : (sdec s)[((a + i : Nat) : Int).toNat]? = some w[i] := by
    rw [Int.toNat_natCast, ← List.getElem?_drop, h, List.getElem?_append_left hi, List.getElem?_eq_getElem hi]
  rw [this]; rfl
theorem sbyte_behind {s : Int} {a : Nat} {w t : List UInt8} {c : UInt8} (h : (sdec s).drop a = w ++ c :: t) : sbyte s ((a + w.length : Nat) : Int) = (c.toNat : Nat) := by
  unfold sbyte
  have : (sdec s)[((a + w.length : Nat) : Int).toNat]? = some c := by
    rw [Int.toNat_natCast, ← List.getElem?_drop, h, List.getElem?_append_right (Nat.le_refl _)]; simp
  rw [this]; rfl
structure Core (s a : Int) (T : Tb) (n : Int) (ws : List (List UInt8)) (k : Nat) (w : List UInt8) : Prop where
  num : n = k
  here : ws[k]? = some w
  rows : RowsW T ws n
  quote : sbyte s a ≠ 34
  fin : ∀ r, a ≤ r → r ≤ slen s → EndP s a r → r = a + w.length ∧ ssub s a r = senc w ∧
    (r < slen s → sbyte s r = 32 ∧ r + 1 < slen s ∧ k + 1 < ws.length ∧ (sdec s).drop (r + 1).toNat = joinW (ws.drop (k + 1))) ∧ (r = slen s → k + 1 = ws.length)
theorem core {s a : Int} {T : Tb} {n : Int} (hI : SplI s a T n) (ha0 : 0 ≤ a) (ha : a < slen s) {ws : List (List UInt8)} (hB : Bare ws) (hs : sdec s = joinW ws) : ∃ k w, Core s a T n ws k w := by
  obtain ⟨k, h1, h2, h3, h4⟩ := hI ws hB hs
  by_cases hk : k < ws.length
  · rw [if_pos hk] at h4
    obtain ⟨h4, _⟩ := h4
    have hd : ws.drop k = ws[k] :: ws.drop (k + 1) := List.drop_eq_getElem_cons hk
    rw [hd, joinW_cons] at h4
    obtain ⟨A, rfl⟩ := Int.eq_ofNat_of_zero_le ha0
    rw [Int.toNat_natCast] at h4
    have hw := hB ws[k] (List.getElem_mem hk)
    refine ⟨k, ws[k], h1, List.getElem?_eq_getElem hk, h3, ?_, fun r hr1 hr2 hE => ?_⟩
    · have h0 : 0 < ws[k].length := List.length_pos_iff.2 hw.1
      have := sbyte_at (i := 0) h4 h0
      simp only [Nat.add_zero] at this
      rw [this]
      have := (hw.2.2 ws[k][0] (List.getElem_mem h0)).2.2
      omega
    · have hq : sbyte s (A : Int) ≠ 34 := by
        have h0 : 0 < ws[k].length := List.length_pos_iff.2 hw.1
        have := sbyte_at (i := 0) h4 h0
        simp only [Nat.add_zero] at this
        rw [this]
        have := (hw.2.2 ws[k][0] (List.getElem_mem h0)).2.2
        omega
      obtain ⟨e1, e2⟩ := hE hq
      have hlen : (sdec s).length = A + ws[k].length + (if ws.drop (k + 1) = [] then [] else 32 :: joinW (ws.drop (k + 1))).length := by
        have := congrArg List.length h4
        rw [List.length_drop, List.length_append] at this
        simp only [slen] at ha
        omega
      have hra : r = A + ws[k].length := by
        rcases Int.lt_trichotomy r (A + ws[k].length) with hlt | heq | hgt
        · exfalso
          obtain ⟨i, hi⟩ : ∃ i : Nat, r = ((A + i : Nat) : Int) := ⟨(r - A).toNat, by omega⟩
          have hi' : i < ws[k].length := by omega
          have hb := sbyte_at (i := i) h4 hi'
          rw [← hi] at hb
          rcases e2 with e2 | e2
          · simp only [slen] at e2; omega
          · have := hw.2.2 ws[k][i] (List.getElem_mem hi')
            omega
        · exact heq
        · exfalso
          by_cases hl : ws.drop (k + 1) = []
          · rw [if_pos hl] at hlen
            simp only [slen, List.length_nil] at hr2 hlen; omega
          · rw [if_neg hl] at h4
            have hb := sbyte_behind (s := s) (a := A) h4
            have := e1 ((A + ws[k].length : Nat) : Int) (by omega) (by omega)
            rw [hb] at this
            exact this rfl
      refine ⟨hra, ?_, fun hlt => ?_, fun heq => ?_⟩
      · unfold ssub
        have : r.toNat - (A : Int).toNat = ws[k].length := by omega
        rw [this, Int.toNat_natCast, h4, List.take_left' rfl]
      · have hl : ¬ ws.drop (k + 1) = [] := fun hl => by
          rw [if_pos hl] at hlen
          simp only [slen, List.length_nil] at hlt hlen; omega
        rw [if_neg hl] at h4 hlen
        have hk1 : k + 1 < ws.length := by
          by_cases hk1 : k + 1 < ws.length
          · exact hk1
          · exact absurd (List.drop_eq_nil_of_le (by omega)) hl
        have hb := sbyte_behind (s := s) (a := A) h4
        refine ⟨by rw [hra]; exact hb, ?_, hk1, ?_⟩
        · have hd2 : ws.drop (k + 1) = ws[k + 1] :: ws.drop (k + 1 + 1) := List.drop_eq_getElem_cons hk1
          have hne := (hB ws[k + 1] (List.getElem_mem hk1)).1
          have : 0 < (joinW (ws.drop (k + 1))).length := by
            rw [hd2, joinW_cons, List.length_append]
            have := List.length_pos_iff.2 hne
            omega
          simp only [slen, List.length_cons] at hlen ⊢
          omega
        · have : (r + 1).toNat = A + (ws[k].length + 1) := by omega
          rw [this, ← List.drop_drop, h4]
          rw [List.drop_append, List.drop_eq_nil_of_le (by omega)]
          simp
      · by_cases hk1 : k + 1 < ws.length
        · exfalso
          have hl : ¬ ws.drop (k + 1) = [] := fun hl => by
            have := congrArg List.length hl
            simp at this; omega
          rw [if_neg hl] at hlen
          simp only [slen, List.length_cons] at heq hlen
          omega
        · omega
  · rw [if_neg hk] at h4
    omega
theorem trim_itoa (m : Int) : Lib.trimPrefix (itoa m) [45] = decDigits m.natAbs := by
  unfold itoa
  by_cases h : m < 0
  · rw [if_pos h]; simp [Lib.trimPrefix, Lib.hasPrefix]
  · rw [if_neg h]
    have hm : m.toNat = m.natAbs := by omega
    rw [hm]
    have hd := dd_digit m.natAbs
    have hne := dd_ne m.natAbs
    generalize decDigits m.natAbs = l at hd hne
    cases l with
    | nil => exact absurd rfl hne
    | cons c r =>
      have hc := hd c (by simp)
      have : ¬ (45 : UInt8) = c := fun e => by subst e; simp at hc
      simp [Lib.trimPrefix, Lib.hasPrefix, this]
theorem pre_itoa (m : Int) : Lib.hasPrefix (itoa m) [45] = decide (m < 0) := by
  unfold itoa
  by_cases h : m < 0
  · rw [if_pos h]; simp [Lib.hasPrefix, h]
  · rw [if_neg h]
    have hd := dd_digit m.toNat
    have hne := dd_ne m.toNat
    generalize decDigits m.toNat = l at hd hne
    cases l with
    | nil => exact absurd rfl hne
    | cons c r =>
      have hc := hd c (by simp)
      have : ¬ (45 : UInt8) = c := fun e => by subst e; simp at hc
      simp [Lib.hasPrefix, List.isPrefixOf, this, h]
theorem dd_zero {u : Nat} {b : UInt8} (h : (decDigits u)[0]? = some b) (hb : b.toNat = 48) : u = 0 := by
  by_cases hu : 1 ≤ u
  · exact absurd hb (dd_head u hu b (by rw [List.head?_eq_getElem?]; exact h))
  · omega
theorem dval_take_le (l : List UInt8) (i : Nat) : dval 0 (l.take i) ≤ dval 0 l := by
  have h : dval 0 l = dval (dval 0 (l.take i)) (l.drop i) := by rw [← dval_append, List.take_append_drop]
  rw [h]; exact dval_ge _ _
theorem dval_take_succ {l : List UInt8} {i : Nat} {c : UInt8} (h : l[i]? = some c) : dval 0 (l.take (i + 1)) = dval 0 (l.take i) * 10 + (c.toNat - 48) := by
  obtain ⟨hi, he⟩ := List.getElem?_eq_some_iff.1 h
  rw [List.take_succ_eq_append_getElem hi, dval_append, he, dval_cons, dval_nil]
theorem w64 {x : Int} (h : -9223372036854775808 ≤ x ∧ x ≤ 9223372036854775807) : IntKind.i64.wrap x = x := wrap_rng (k := .i64) h
theorem w8 {x : Int} (h : 0 ≤ x ∧ x ≤ 255) : IntKind.u8.wrap x = x := wrap_rng (k := .u8) h
theorem accL_pos {l : List UInt8} (hd : ∀ b ∈ l, 48 ≤ b.toNat ∧ b.toNat ≤ 57) (hf : dval 0 l ≤ 9223372036854775807) : ∀ i, i ≤ l.length → accL l i = (dval 0 (l.take i) : Nat)
  | 0, _ => by simp [accL, dval]
  | i + 1, h => by
    have hi : i < l.length := by omega
    have hc := hd l[i] (List.getElem_mem hi)
    have hx := List.getElem?_eq_getElem hi
    have e := dval_take_succ hx
    have hle := dval_take_le l (i + 1)
    have hle2 := dval_take_le l i
    have h0' : ¬ ((((l[0]?).getD 0).toNat : Nat) : Int) = 45 := by
      have h0 : 0 < l.length := by omega
      have hc0 := hd l[0] (List.getElem_mem h0)
      rw [List.getElem?_eq_getElem h0, Option.getD_some]
      omega
    simp only [accL]
    rw [hx, Option.getD_some, if_pos (by omega), if_neg h0', accL_pos hd hf i (by omega), w8 (by omega), w64 (x := (l[i].toNat : Int) - 48) (by omega), w64 (x := 10 * ((dval 0 (l.take i) : Nat) : Int)) (by omega), w64 (by omega)]
    omega
theorem accL_neg {l : List UInt8} (hd : ∀ b ∈ l, 48 ≤ b.toNat ∧ b.toNat ≤ 57) (hf : dval 0 l ≤ 9223372036854775808) : ∀ i, i ≤ l.length → accL (45 :: l) (i + 1) = -(dval 0 (l.take i) : Nat)
  | 0, _ => by simp [accL, dval]
  | i + 1, h => by
    have hi : i < l.length := by omega
    have hc := hd l[i] (List.getElem_mem hi)
    have hx : (45 :: l)[i + 1]? = some l[i] := by rw [List.getElem?_cons_succ]; exact List.getElem?_eq_getElem hi
    have e := dval_take_succ (List.getElem?_eq_getElem hi)
    have hle := dval_take_le l (i + 1)
    have hle2 := dval_take_le l i
    rw [accL]
    rw [hx, Option.getD_some]
    simp only [List.getElem?_cons_zero, Option.getD_some]
    rw [if_pos (by omega), if_pos (show ((UInt8.toNat 45 : Nat) : Int) = 45 from rfl), accL_neg hd hf i (by omega), w8 (by omega), w64 (x := (l[i].toNat : Int) - 48) (by omega), w64 (x := 10 * -((dval 0 (l.take i) : Nat) : Int)) (by omega), w64 (by omega)]
    omega
theorem accL_itoa {m : Int} (h : I64 m) : accL (itoa m) (itoa m).length = m := by
  obtain ⟨h0, h1⟩ := h
  unfold itoa
  by_cases hm : m < 0
  · rw [if_pos hm, List.length_cons, accL_neg (dd_digit _) (by rw [dval_dd]; omega) _ (Nat.le_refl _), List.take_length, dval_dd]
    omega
  · rw [if_neg hm, accL_pos (dd_digit _) (by rw [dval_dd]; omega) _ (Nat.le_refl _), List.take_length, dval_dd]
    omega
theorem nd_one {u : Nat} : 1 ≤ nDigits u := nDigits_pos u
theorem dep_small {n : Int} (h : 0 ≤ n) (h1 : n < 10) : dep n = 2 := by
  unfold dep; rw [if_neg (by omega), nDigits_small (by omega)]
theorem dep_big {n : Int} (h : 10 ≤ n) : dep (n.tdiv 10) < dep n ∧ dep (n.tmod 10) < dep n := by
  have e1 : n.tdiv 10 = n / 10 := Int.tdiv_eq_ediv_of_nonneg (by omega)
  have e2 : n.tmod 10 = n % 10 := Int.tmod_eq_emod_of_nonneg (by omega)
  rw [e1, e2, dep_small (n := n % 10) (by omega) (by omega)]
  unfold dep
  rw [if_neg (by omega), if_neg (by omega), nDigits_big (u := n.natAbs) (by omega)]
  have : (n / 10).natAbs = n.natAbs / 10 := by omega
  rw [this]
  have := nd_one (u := n.natAbs / 10)
  omega
theorem dep_negs {n : Int} (h : n < 0) (h1 : -10 < n) : dep (-n) < dep n := by
  rw [dep_small (n := -n) (by omega) (by omega)]
  unfold dep
  rw [if_pos h]
  have := nd_one (u := n.natAbs)
  omega
theorem dep_negb {n : Int} (h : n ≤ -10) : dep (n.tdiv 10) < dep n ∧ dep (-(n.tmod 10)) < dep n := by
  obtain ⟨u, hu⟩ := Int.eq_ofNat_of_zero_le (show 0 ≤ -n by omega)
  have hn : n = -(u : Int) := by omega
  have e1 : n.tdiv 10 = -((u / 10 : Nat) : Int) := by rw [hn, Int.neg_tdiv, Int.tdiv_eq_ediv_of_nonneg (by omega)]; rfl
  have e2 : -(n.tmod 10) = ((u % 10 : Nat) : Int) := by rw [hn, Int.neg_tmod, Int.neg_neg, Int.tmod_eq_emod_of_nonneg (by omega)]; rfl
  rw [e1, e2, dep_small (n := ((u % 10 : Nat) : Int)) (by omega) (by omega)]
  unfold dep
  rw [if_pos (by omega), if_pos (by omega), show n.natAbs = u by omega, nDigits_big (u := u) (by omega), show (-((u / 10 : Nat) : Int)).natAbs = u / 10 by omega]
  have := nd_one (u := u / 10)
  omega
theorem dep_le {n : Int} (h : I64 n) : dep n ≤ 39 := by
  have := nDigits_le 19 n.natAbs (by omega) (by obtain ⟨h0, h1⟩ := h; omega)
  unfold dep
  split <;> omega
end Go.Tt
namespace Go.Tt
open Go Go.Sx Go.Lib Go.Sf
theorem slen_nonneg (s : Int) : 0 ≤ slen s := by unfold slen; omega
theorem slen_zero {s : Int} (h : slen s = 0) : s = 0 := by
  have h1 : sdec s = [] := List.eq_nil_of_length_eq_zero (by simpa [slen] using h)
  have h2 : sdec 0 = [] := rfl
  exact sdec_inj (by rw [h1, h2])
theorem slen_pos {s : Int} (h : ¬ s = 0) : 0 < slen s := by
  have := slen_nonneg s
  rcases Int.lt_or_eq_of_le this with h1 | h1
  · exact h1
  · exact absurd (slen_zero h1.symm) h
theorem slen_senc (l : List UInt8) : slen (senc l) = (l.length : Nat) := by unfold slen; rw [sdec_senc]
theorem slen_0 : slen 0 = 0 := rfl
theorem sdec_0 : sdec 0 = [] := rfl
theorem sdec_ne {s : Int} : sdec s ≠ [] ↔ s ≠ 0 := ⟨fun h e => h (by rw [e]; rfl), fun h e => h (sdec_inj (by rw [e]; rfl))⟩
theorem sbyte_mem {s n : Int} (h0 : 0 ≤ n) (h1 : n < slen s) : ∃ c, (sdec s)[n.toNat]? = some c ∧ c ∈ sdec s ∧ sbyte s n = (c.toNat : Nat) := by
  have hl : n.toNat < (sdec s).length := by unfold slen at h1; omega
  refine ⟨(sdec s)[n.toNat], List.getElem?_eq_getElem hl, List.getElem_mem hl, ?_⟩
  unfold sbyte
  rw [List.getElem?_eq_getElem hl]; rfl
theorem mem_sbyte {s : Int} {c : UInt8} (h : c ∈ sdec s) : ∃ n : Int, 0 ≤ n ∧ n < slen s ∧ sbyte s n = (c.toNat : Nat) := by
  obtain ⟨i, hi, rfl⟩ := List.getElem_of_mem h
  refine ⟨i, by omega, by unfold slen; omega, ?_⟩
  unfold sbyte
  rw [Int.toNat_natCast, List.getElem?_eq_getElem hi]; rfl
theorem slen_scat (a b : Int) : slen (scat a b) = slen a + slen b := by
  unfold scat
  rw [slen_senc, List.length_append]
  unfold slen
  omega
theorem slen_ssub (a i j : Int) : slen (ssub a i j) ≤ ((j.toNat - i.toNat : Nat) : Int) ∧ slen (ssub a i j) ≤ slen a := by
  unfold ssub
  rw [slen_senc]
  have h1 := List.length_take_le (j.toNat - i.toNat) ((sdec a).drop i.toNat)
  have h2 : (((sdec a).drop i.toNat).take (j.toNat - i.toNat)).length ≤ ((sdec a).drop i.toNat).length := List.length_take_le' _ _
  rw [List.length_drop] at h2
  unfold slen
  omega
theorem sdec_ssub (a i j : Int) : sdec (ssub a i j) = ((sdec a).drop i.toNat).take (j.toNat - i.toNat) := by unfold ssub; rw [sdec_senc]
theorem scat_senc (l m : List UInt8) : scat (senc l) (senc m) = senc (l ++ m) := by unfold scat; rw [sdec_senc, sdec_senc]
theorem BareW.bytes {w : List UInt8} (h : BareW w) {b : UInt8} (hb : b ∈ w) : (33 ≤ b.toNat ∧ b.toNat ≤ 126) ∧ b.toNat ≠ 34 := by
  have := h.2.2 b hb
  omega
theorem spl_next {s a : Int} {T : Tb} {n : Int} (hI : SplI s a T n) (h0 : 0 ≤ a) (h1 : a < slen s) {r : Int} (hr1 : a ≤ r) (hr2 : r ≤ slen s) (hE : EndP s a r) (q x : Int)
    (hq : sbyte s a ≠ 34 → q = 0 ∧ x = ssub s a r) : SplI s (r + 1) (tupd (tupd T n 0 q) n 1 x) (n + 1) := by
  intro ws hB hs
  obtain ⟨k, w, hC⟩ := core hI h0 h1 hB hs
  obtain ⟨e1, e2, e3, e4⟩ := hC.fin r hr1 hr2 hE
  obtain ⟨rfl, rfl⟩ := hq hC.quote
  have hk : k < ws.length := (List.getElem?_eq_some_iff.1 hC.here).1
  refine ⟨k + 1, by rw [hC.num]; rfl, hk, ?_, ?_⟩
  · intro j hj
    by_cases hjn : (j : Int) = n
    · have hjk : j = k := by have := hC.num; omega
      subst hjk
      refine ⟨by simp [tupd, hjn], fun w' hw' => ?_⟩
      rw [hC.here] at hw'
      simp only [Option.some.injEq] at hw'
      subst hw'
      simp [tupd, hjn, e2]
    · have := hC.rows j (by omega)
      refine ⟨by simp [tupd, hjn, this.1], fun w' hw' => ?_⟩
      simp [tupd, hjn, this.2 w' hw']
  · by_cases hk1 : k + 1 < ws.length
    · rw [if_pos hk1]
      have hlt : r < slen s := by
        rcases Int.lt_or_eq_of_le hr2 with h | h
        · exact h
        · have := e4 h; omega
      obtain ⟨_, f2, _, f4⟩ := e3 hlt
      exact ⟨f4, f2⟩
    · rw [if_neg hk1]
      rcases Int.lt_or_eq_of_le hr2 with h | h
      · have := (e3 h).2.2.1; omega
      · omega
theorem rows_put {T : Tb} {ws : List (List UInt8)} {n q x : Int} {w : List UInt8} (h : RowsW T ws n) (hn : n = (ws.length : Nat)) (hq : q = 0) (hx : x = senc w) :
    RowsW (tupd (tupd T n 0 q) n 1 x) (ws ++ [w]) (n + 1) := by
  intro j hj
  by_cases hjn : (j : Int) = n
  · refine ⟨by simp [tupd, hjn, hq], fun w' hw' => ?_⟩
    have : j = ws.length := by omega
    subst this
    simp at hw'
    subst hw'
    simp [tupd, hjn, hx]
  · have := h j (by omega)
    refine ⟨by simp [tupd, hjn, this.1], fun w' hw' => ?_⟩
    rw [List.getElem?_append_left (by omega)] at hw'
    simp [tupd, hjn, this.2 w' hw']
theorem zero_put {T : Tb} {n q x : Int} (hn : 0 ≤ n) (h : ∀ r : Nat, (r : Int) < n + 1 → tupd (tupd T n 0 q) n 1 x r 0 = 0) : q = 0 ∧ ∀ r : Nat, (r : Int) < n → T r 0 = 0 := by
  refine ⟨?_, fun r hr => ?_⟩
  · have := h n.toNat (by omega)
    rw [Int.toNat_of_nonneg hn] at this
    simpa [tupd] using this
  · have := h r (by omega)
    have hne : ¬ ((r : Int) = n) := by omega
    simpa [tupd, hne] using this
theorem bare_put {ws : List (List UInt8)} {w : List UInt8} (h : Bare ws) (hw : BareW w) : Bare (ws ++ [w]) := fun x hx => by
  rcases List.mem_append.1 hx with hx | hx
  · exact h x hx
  · simp at hx; subst hx; exact hw
theorem splJ_next {s a : Int} {T : Tb} {n : Int} (hJ : SplJ s a T n) (h0 : 0 ≤ a) (h1 : a < slen s) (hn : 0 ≤ n) {r : Int} (hr1 : a ≤ r) (hr2 : r ≤ slen s) {q x : Int}
    (hq : q = 0 → x = ssub s a r ∧ BareW (sdec x)) (hr : r < slen s → sbyte s r = 32 ∧ ¬ r + 1 = slen s) : SplJ s (r + 1) (tupd (tupd T n 0 q) n 1 x) (n + 1) := by
  intro hz
  obtain ⟨hq0, hz⟩ := zero_put hn hz
  obtain ⟨hx, hw⟩ := hq hq0
  obtain ⟨ws, e1, e2, e3, e4⟩ := hJ hz
  have hxs : x = senc (sdec x) := by rw [senc_sdec]
  refine ⟨ws ++ [sdec x], bare_put e1 hw, by simp; omega, rows_put e3 e2 hq0 hxs, ?_⟩
  have htake : (sdec s).take r.toNat = preW ws ++ sdec x := by
    have hsplit : (sdec s).take r.toNat = (sdec s).take a.toNat ++ ((sdec s).drop a.toNat).take (r.toNat - a.toNat) := by
      have := List.take_add (l := sdec s) (i := a.toNat) (j := r.toNat - a.toNat)
      rw [show a.toNat + (r.toNat - a.toNat) = r.toNat by omega] at this
      exact this
    rw [hsplit, hx, sdec_ssub]
    rcases e4 with ⟨rfl, rfl⟩ | ⟨_, _, e4⟩ | ⟨e4, _⟩
    · simp [preW]
    · rw [e4]
    · omega
  rcases Int.lt_or_eq_of_le hr2 with hlt | heq
  · obtain ⟨hb, hne⟩ := hr hlt
    refine .inr (.inl ⟨by omega, by omega, ?_⟩)
    obtain ⟨c, hc, _, hc2⟩ := sbyte_mem (s := s) (n := r) (by omega) hlt
    have hc32 : c = 32 := by
      apply UInt8.toNat.inj
      rw [hb] at hc2
      have : c.toNat = 32 := by omega
      rw [this]; rfl
    subst hc32
    obtain ⟨hl, he⟩ := List.getElem?_eq_some_iff.1 hc
    rw [show (r + 1).toNat = r.toNat + 1 by omega, List.take_succ_eq_append_getElem hl, htake, he, preW_append]
    simp [preW]
  · refine .inr (.inr ⟨by omega, ?_⟩)
    rw [joinW_append, ← htake, List.take_of_length_le (by rw [heq]; unfold slen; omega)]
theorem spl_bad {s a : Int} {T : Tb} {n : Int} (hI : SplI s a T n) (h0 : 0 ≤ a) (h1 : a < slen s) {r : Int} (hr1 : a ≤ r) (hr2 : r ≤ slen s) (hE : EndP s a r)
    (h : sbyte s a = 34 ∨ RightP 0 (ssub s a r) 0 ∨ (r < slen s ∧ (¬ sbyte s r = 32 ∨ r + 1 = slen s))) (T' : Tb) (m : Int) {e : Int} (he : e ≠ 0) : SplP s T' m e := by
  refine ⟨fun ws hB _ _ hs => ?_, fun h => absurd h he⟩
  obtain ⟨k, w, hC⟩ := core hI h0 h1 hB hs
  obtain ⟨e1, e2, e3, e4⟩ := hC.fin r hr1 hr2 hE
  rcases h with h | h | ⟨h, h2⟩
  · exact absurd h hC.quote
  · have hw := hB w (List.mem_of_getElem? hC.here)
    rw [e2] at h
    have := (h rfl).2 (by rw [sdec_senc]; exact hw)
    exact absurd rfl this
  · obtain ⟨f1, f2, _, _⟩ := e3 h
    rcases h2 with h2 | h2
    · exact absurd f1 h2
    · omega
theorem spl_end {s a : Int} {T : Tb} {n : Int} (hI : SplI s a T n) (hJ : SplJ s a T n) (h0 : 0 ≤ a) (h1 : ¬ a < slen s) : (64 < n → SplP s (fun _ _ => 0) 0 3) ∧ (¬ 64 < n → SplP s T n 0) := by
  have key : ∀ ws, Bare ws → sdec s = joinW ws → n = (ws.length : Nat) ∧ RowsW T ws n := fun ws hB hs => by
    obtain ⟨k, e1, e2, e3, e4⟩ := hI ws hB hs
    by_cases hk : k < ws.length
    · rw [if_pos hk] at e4
      exact absurd e4.2 h1
    · exact ⟨by omega, e3⟩
  refine ⟨fun h => ⟨fun ws hB hl _ hs => ?_, fun h => by cases h⟩, fun h => ⟨fun ws hB hl _ hs => ?_, fun _ hz => ?_⟩⟩
  · have := (key ws hB hs).1; omega
  · obtain ⟨e1, e2⟩ := key ws hB hs
    exact ⟨rfl, e1, e2⟩
  · obtain ⟨ws, e1, e2, e3, e4⟩ := hJ hz
    refine ⟨ws, e1, by omega, e2, ?_, e3⟩
    rcases e4 with ⟨rfl, rfl⟩ | ⟨_, h2, _⟩ | ⟨_, h2⟩
    · have := slen_nonneg s
      have : s = 0 := slen_zero (by omega)
      subst this; rfl
    · exact absurd h2 h1
    · exact h2
theorem spl_begin (s : Int) : SplI s 0 (fun _ _ => 0) 0 ∧ SplJ s 0 (fun _ _ => 0) 0 := by
  refine ⟨fun ws hB hs => ?_, fun _ => ⟨[], (fun _ h => by cases h), rfl, fun r hr => by omega, .inl ⟨rfl, rfl⟩⟩⟩
  refine ⟨0, rfl, Nat.zero_le _, fun r hr => by omega, ?_⟩
  by_cases h : 0 < ws.length
  · rw [if_pos h]
    refine ⟨by simpa using hs, ?_⟩
    cases ws with
    | nil => simp at h
    | cons w l =>
      have hw := (hB w (by simp)).1
      have := List.length_pos_iff.2 hw
      unfold slen
      rw [hs, joinW_cons, List.length_append]
      omega
  · rw [if_neg h]
    have : ws = [] := List.eq_nil_of_length_eq_zero (by omega)
    subst this
    unfold slen
    rw [hs]; simp [joinW]
theorem rows_next {T : Tb} {n q x : Int} (h : ∀ r : Int, 0 ≤ r → r < n → slen (T r 1) ≤ 100000) (hx : slen x ≤ 100000) : ∀ r : Int, 0 ≤ r → r < n + 1 → slen (tupd (tupd T n 0 q) n 1 x r 1) ≤ 100000 := by
  intro r h0 h1
  by_cases hr : r = n
  · simp [tupd, hr, hx]
  · simp [tupd, hr]; exact h r h0 (by omega)
theorem joinW_bytes {ws : List (List UInt8)} (h : Bare ws) : ∀ b ∈ joinW ws, b.toNat < 128 ∧ b.toNat ≠ 34 := by
  induction ws with
  | nil => intro b hb; cases hb
  | cons w l ih =>
    intro b hb
    rw [joinW_cons] at hb
    rcases List.mem_append.1 hb with hb | hb
    · have := (h w (by simp)).bytes hb; omega
    · split at hb
      · cases hb
      · rcases List.mem_cons.1 hb with rfl | hb
        · exact ⟨by decide, by decide⟩
        · exact ih (fun x hx => h x (by simp [hx])) b hb
theorem ix_words {r at' u : Int} {ws : List (List UInt8)} (hB : Bare ws) (hne : ws ≠ []) (hr : sdec r = joinW ws) (h : IxP r 0 at' u) :
    u = 0 ∧ ∃ w l, ws = w :: l ∧ ((at' = -1 ∧ l = [] ∧ sdec r = w) ∨ (0 ≤ at' ∧ l ≠ [] ∧ at' = (w.length : Nat) ∧ sdec (ssub r 0 at') = w ∧ sdec (ssub r (at' + 1) (slen r)) = joinW l)) := by
  obtain ⟨w, l, rfl⟩ := List.exists_cons_of_ne_nil hne
  have hby : ∀ j, 0 ≤ j → j < slen r → sbyte r j < 128 ∧ sbyte r j ≠ 34 := fun j h0 h1 => by
    obtain ⟨c, _, h2, h3⟩ := sbyte_mem h0 h1
    rw [hr] at h2
    have := joinW_bytes hB c h2
    omega
  have hw := hB w (by simp)
  have hin : ∀ j : Nat, j < w.length → sbyte r j ≠ 32 := fun j hj => by
    have hd : (sdec r).drop 0 = w ++ (if l = [] then [] else 32 :: joinW l) := by rw [List.drop_zero, hr, joinW_cons]
    have := sbyte_at (s := r) (a := 0) (i := j) hd hj
    rw [Nat.zero_add] at this
    rw [this]
    have := hw.bytes (List.getElem_mem hj)
    omega
  rcases h with ⟨rfl, hI⟩ | ⟨h0, h1, h2, hI⟩
  · obtain ⟨hu, hn⟩ := hI rfl hby
    refine ⟨hu, w, l, rfl, .inl ⟨rfl, ?_, ?_⟩⟩
    all_goals
      by_cases hl : l = []
      · first
          | exact hl
          | (subst hl; rw [hr]; rfl)
      · exfalso
        have hd : (sdec r).drop 0 = w ++ 32 :: joinW l := by rw [List.drop_zero, hr, joinW_cons, if_neg hl]
        have hb := sbyte_behind (s := r) (a := 0) hd
        rw [Nat.zero_add] at hb
        refine hn w.length (by omega) ?_ hb
        unfold slen
        rw [hr, joinW_cons, if_neg hl]
        simp; omega
  · obtain ⟨hu, hn⟩ := hI rfl fun j hj0 hj1 => hby j hj0 (by omega)
    obtain ⟨A, rfl⟩ := Int.eq_ofNat_of_zero_le h0
    have hge : w.length ≤ A := by
      rcases Nat.lt_or_ge A w.length with hlt | hge
      · exact absurd h2 (hin A hlt)
      · exact hge
    have hl : l ≠ [] := fun hl => by
      subst hl
      unfold slen at h1
      rw [hr] at h1
      simp [joinW] at h1
      omega
    have hd : (sdec r).drop 0 = w ++ 32 :: joinW l := by rw [List.drop_zero, hr, joinW_cons, if_neg hl]
    have hb := sbyte_behind (s := r) (a := 0) hd
    rw [Nat.zero_add] at hb
    have hle : A ≤ w.length := by
      rcases Nat.lt_or_ge w.length A with hlt | hge
      · exact absurd hb (hn w.length (by omega) (by omega))
      · exact hge
    have hA : A = w.length := by omega
    subst hA
    rw [List.drop_zero] at hd
    refine ⟨hu, w, l, rfl, .inr ⟨h0, hl, rfl, ?_, ?_⟩⟩
    · rw [sdec_ssub, hd]
      simp
    · rw [sdec_ssub, hd]
      rw [show ((w.length : Int) + 1).toNat = w.length + 1 by omega, List.drop_append, List.drop_eq_nil_of_le (by omega)]
      simp only [List.nil_append, show w.length + 1 - w.length = 1 by omega, List.drop_succ_cons, List.drop_zero]
      refine List.take_of_length_le ?_
      unfold slen
      rw [hd]
      simp; omega
theorem pc_begin {s : Int} (h : ¬ s = 0) : PcI s s 0 (fun _ _ => 0) 0 := by
  refine ⟨fun ws hB hs => ⟨0, rfl, ?_, fun r hr => by omega, rfl, by simpa using hs⟩, fun _ => ⟨rfl, [], (fun _ h => by cases h), rfl, (fun r hr => by omega), by simp [preW]⟩⟩
  cases ws with
  | nil => exact absurd (sdec_inj (by rw [hs]; rfl)) h
  | cons w l => simp
theorem pc_bare {r at' u : Int} (hI : IxI r 0 at' u) (h0 : 0 ≤ at') (h1 : at' ≤ slen r) (hw : BareW (sdec (ssub r 0 at'))) : u = 0 := by
  refine (hI rfl fun j hj0 hj1 => ?_).1
  have hl : j.toNat < (sdec (ssub r 0 at')).length := by
    rw [sdec_ssub]
    simp only [List.length_take, List.length_drop]
    unfold slen at h1; omega
  have hb := hw.bytes (List.getElem_mem hl)
  have e : (sdec (ssub r 0 at'))[j.toNat]? = (sdec r)[j.toNat]? := by
    rw [sdec_ssub]
    simp only [Int.toNat_zero, List.drop_zero]
    rw [List.getElem?_take, if_pos (by omega)]
  have hb2 : sbyte r j = ((sdec (ssub r 0 at'))[j.toNat].toNat : Nat) := by
    unfold sbyte
    rw [← e, List.getElem?_eq_getElem hl]; rfl
  rw [hb2]; omega
theorem hpre_bare {w : List UInt8} {p : Int} (hw : BareW w) (hp : sdec p = w) : hpre p (-18) = 0 := by
  unfold hpre
  rw [hp]
  have e : sdec (-18) = [34] := rfl
  rw [e]
  obtain ⟨c, l, rfl⟩ := List.exists_cons_of_ne_nil hw.1
  have := hw.bytes (b := c) (by simp)
  have hc : ¬ (34 : UInt8) = c := fun h => by subst h; exact this.2 rfl
  simp [Lib.hasPrefix, List.isPrefixOf, hc]
theorem pc_word {s r v : Int} {T : Tb} {n at' u : Int} (hP : PcI s r v T n) (hI : IxP r v at' u) {ws : List (List UInt8)} (hB : Bare ws) (hs : sdec s = joinW ws) :
    ∃ k : Nat, n = k ∧ k < ws.length ∧ RowsW T ws n ∧ u = 0 ∧ ∃ w l, ws.drop k = w :: l ∧ BareW w ∧ ((at' = -1 ∧ l = [] ∧ sdec r = w) ∨ (0 ≤ at' ∧ l ≠ [] ∧ at' = (w.length : Nat) ∧ sdec (ssub r 0 at') = w ∧ sdec (ssub r (at' + 1) (slen r)) = joinW l)) := by
  obtain ⟨k, e1, e2, e3, rfl, e5⟩ := hP.1 ws hB hs
  have hne : ws.drop k ≠ [] := fun h => by
    have := congrArg List.length h
    simp at this; omega
  have hB' : Bare (ws.drop k) := fun w hw => hB w (List.mem_of_mem_drop hw)
  obtain ⟨hu, w, l, e6, e7⟩ := ix_words hB' hne e5 hI
  exact ⟨k, e1, e2, e3, hu, w, l, e6, hB' w (by rw [e6]; simp), e7⟩
theorem drop_at {ws : List (List UInt8)} {k : Nat} {w : List UInt8} {l : List (List UInt8)} (h : ws.drop k = w :: l) : ws[k]? = some w ∧ ws.drop (k + 1) = l := by
  constructor
  · have := congrArg (·[0]?) h
    simpa using this
  · have := congrArg (List.drop 1) h
    simpa [List.drop_drop] using this
theorem rows_word {T : Tb} {ws : List (List UInt8)} {k : Nat} {n : Int} {w : List UInt8} (hn : n = k) (hk : ws[k]? = some w) (h : RowsW T ws n) {q x : Int} (hq : q = 0) (hx : x = senc w) : RowsW (tupd (tupd T n 0 q) n 1 x) ws (n + 1) := by
  intro j hj
  by_cases hjn : (j : Int) = n
  · have hjk : j = k := by omega
    subst hjk
    refine ⟨by simp [tupd, hjn, hq], fun w' hw' => ?_⟩
    rw [hk] at hw'
    simp only [Option.some.injEq] at hw'
    subst hw'
    simp [tupd, hjn, hx]
  · have := h j (by omega)
    refine ⟨by simp [tupd, hjn, this.1], fun w' hw' => ?_⟩
    simp [tupd, hjn, this.2 w' hw']
theorem pc_next {s r v : Int} {T : Tb} {n at' u : Int} (hP : PcI s r v T n) (hn : 0 ≤ n) (hI : IxP r v at' u) (h0 : 0 ≤ at') {q x : Int}
    (hq : hpre (ssub r 0 at') (-18) = 0 → q = 0 ∧ x = ssub r 0 at') (hq2 : q = 0 → x = ssub r 0 at' ∧ BareW (sdec x)) : PcI s (ssub r (at' + 1) (slen r)) u (tupd (tupd T n 0 q) n 1 x) (n + 1) := by
  refine ⟨fun ws hB hs => ?_, fun hz => ?_⟩
  · obtain ⟨k, e1, e2, e3, e4, w, l, e5, e6, e7⟩ := pc_word hP hI hB hs
    rcases e7 with ⟨h, _⟩ | ⟨_, e8, e9, e10, e11⟩
    · omega
    obtain ⟨rfl, rfl⟩ := hq (hpre_bare e6 e10)
    obtain ⟨f1, f2⟩ := drop_at e5
    refine ⟨k + 1, by omega, ?_, rows_word e1 f1 e3 rfl (by rw [← e10, senc_sdec]), e4, by rw [e11, f2]⟩
    rcases Nat.lt_or_ge (k + 1) ws.length with h | h
    · exact h
    · exact absurd (by rw [← f2]; exact List.drop_eq_nil_of_le h) e8
  · obtain ⟨hq0, hz⟩ := zero_put hn hz
    obtain ⟨hx, hw⟩ := hq2 hq0
    obtain ⟨hv, ws, e1, e2, e3, e4⟩ := hP.2 hz
    subst hv
    rcases hI with ⟨h, _⟩ | ⟨_, h1, h2, hI⟩
    · omega
    have hw' : BareW (sdec (ssub r 0 at')) := by rw [← hx]; exact hw
    have hu := pc_bare hI h0 (by omega) hw'
    refine ⟨hu, ws ++ [sdec x], bare_put e1 hw, by simp; omega, rows_put e3 e2 hq0 (by rw [senc_sdec]), ?_⟩
    rw [preW_append, e4, hx]
    obtain ⟨c, hc, _, hc2⟩ := sbyte_mem (s := r) h0 h1
    have hc32 : c = 32 := by
      apply UInt8.toNat.inj
      rw [h2] at hc2
      have : c.toNat = 32 := by omega
      rw [this]; rfl
    subst hc32
    obtain ⟨hl, he⟩ := List.getElem?_eq_some_iff.1 hc
    have hr : sdec r = sdec (ssub r 0 at') ++ 32 :: sdec (ssub r (at' + 1) (slen r)) := by
      rw [sdec_ssub, sdec_ssub]
      simp only [Int.toNat_zero, List.drop_zero, Nat.sub_zero]
      have e1 : (sdec r).take at'.toNat ++ (sdec r).drop at'.toNat = sdec r := List.take_append_drop _ _
      have e2 : (sdec r).drop at'.toNat = 32 :: (sdec r).drop (at'.toNat + 1) := by rw [List.drop_eq_getElem_cons hl, he]
      rw [show (at' + 1).toNat = at'.toNat + 1 by omega]
      rw [List.take_of_length_le (l := (sdec r).drop (at'.toNat + 1)) (by unfold slen; simp), ← e2, e1]
    simp only [preW, List.append_assoc, List.cons_append, List.nil_append]
    rw [← hr]
theorem pc_last {s r v : Int} {T : Tb} {n u : Int} (hP : PcI s r v T n) (hn : 0 ≤ n) (hI : IxP r v (-1) u) {q x : Int}
    (hq : hpre r (-18) = 0 → q = 0 ∧ x = r) (hq2 : q = 0 → x = r ∧ BareW (sdec x)) :
    (64 < n + 1 → ∀ T', SplP s T' 0 3) ∧ (¬ 64 < n + 1 → SplP s (tupd (tupd T n 0 q) n 1 x) (n + 1) 0) := by
  have key : ∀ ws, Bare ws → sdec s = joinW ws → n + 1 = (ws.length : Nat) ∧ RowsW (tupd (tupd T n 0 q) n 1 x) ws (n + 1) := fun ws hB hs => by
    obtain ⟨k, e1, e2, e3, e4, w, l, e5, e6, e7⟩ := pc_word hP hI hB hs
    rcases e7 with ⟨_, rfl, e8⟩ | ⟨h, _⟩
    · obtain ⟨rfl, rfl⟩ := hq (hpre_bare e6 e8)
      obtain ⟨f1, f2⟩ := drop_at e5
      refine ⟨?_, rows_word e1 f1 e3 rfl (by rw [← e8, senc_sdec])⟩
      have := congrArg List.length f2
      simp at this
      omega
    · omega
  refine ⟨fun h T' => ⟨fun ws hB hl _ hs => ?_, fun h => by cases h⟩, fun h => ⟨fun ws hB hl _ hs => ?_, fun _ hz => ?_⟩⟩
  · have := (key ws hB hs).1; omega
  · obtain ⟨e1, e2⟩ := key ws hB hs
    exact ⟨rfl, e1, e2⟩
  · obtain ⟨hq0, hz⟩ := zero_put hn hz
    obtain ⟨rfl, hw⟩ := hq2 hq0
    obtain ⟨hv, ws, e1, e2, e3, e4⟩ := hP.2 hz
    exact ⟨ws ++ [sdec x], bare_put e1 hw, by simp; omega, by simp; omega, by rw [joinW_append, e4], rows_put e3 e2 hq0 (by rw [senc_sdec])⟩
theorem pc_bad {s r v : Int} {T : Tb} {n at' u : Int} (hP : PcI s r v T n) (hI : IxP r v at' u) {p : Int} (hp : (0 ≤ at' ∧ p = ssub r 0 at') ∨ (at' < 0 ∧ p = r)) (h : hpre p (-18) ≠ 0 ∨ ¬ BareW (sdec p)) (T' : Tb) (m : Int) {e : Int} (he : e ≠ 0) : SplP s T' m e := by
  refine ⟨fun ws hB _ _ hs => ?_, fun h => absurd h he⟩
  obtain ⟨k, e1, e2, e3, e4, w, l, e5, e6, e7⟩ := pc_word hP hI hB hs
  have hw : sdec p = w := by
    rcases e7 with ⟨h1, _, h2⟩ | ⟨h1, _, _, h2, _⟩ <;> rcases hp with ⟨h3, rfl⟩ | ⟨h3, rfl⟩
    · omega
    · exact h2
    · exact h2
    · omega
  rcases h with h | h
  · exact absurd (hpre_bare e6 hw) h
  · exact absurd (by rw [hw]; exact e6) h
theorem get_byte {s : Int} {i : Nat} (h : i < (sdec s).length) : (((ByteArray.mk (sdec s).toArray).get! i).toNat : Int) = sbyte s i := by
  unfold sbyte
  rw [Int.toNat_natCast, List.getElem?_eq_getElem h]
  show ((((sdec s).toArray)[i]!).toNat : Int) = _
  rw [getElem!_pos ((sdec s).toArray) i (by simpa using h)]
  simp
theorem rune_spec {s q : Int} (h0 : 0 ≤ q) (h1 : q < slen s) : (sbyte s q < 128 ∧ srune s q = sbyte s q ∧ swidth s q = 1) ∨ (128 ≤ sbyte s q ∧ 128 ≤ srune s q ∧ 1 ≤ swidth s q) := by
  obtain ⟨A, rfl⟩ := Int.eq_ofNat_of_zero_le h0
  have hl : A < (sdec s).length := by unfold slen at h1; omega
  have hb := get_byte hl
  unfold srune swidth
  rw [Int.toNat_natCast]
  unfold Utf8.decode
  simp only [Nat.add_zero]
  split
  · rename_i h
    left
    exact ⟨by omega, by omega, rfl⟩
  · rename_i h
    right
    refine ⟨by omega, ?_⟩
    have e : (Utf8.runeError : Nat) = 65533 := rfl
    split
    · split
      · rename_i h2; simp only at h2 ⊢; omega
      · rw [e]; simp only; omega
    · split
      · split
        · rename_i h2; simp only [Bool.and_eq_true, decide_eq_true_eq] at h2 ⊢; omega
        · rw [e]; simp only; omega
      · split
        · split
          · rename_i h2; simp only [Bool.and_eq_true, decide_eq_true_eq] at h2 ⊢; omega
          · rw [e]; simp only; omega
        · rw [e]; simp only; omega
theorem width_le {s q : Int} (h0 : 0 ≤ q) (h1 : q < slen s) : q + swidth s q ≤ slen s := by
  obtain ⟨A, rfl⟩ := Int.eq_ofNat_of_zero_le h0
  have hl : A < (sdec s).length := by unfold slen at h1; omega
  unfold swidth
  rw [Int.toNat_natCast, Lib.decode_at]
  have hsz : (ByteArray.mk (sdec s).toArray).size = (sdec s).length := by
    show (sdec s).toArray.size = _
    simp
  have := Lib.decodeN_le_n' ((ByteArray.mk (sdec s).toArray).size - A) ((ByteArray.mk (sdec s).toArray).get! A).toNat ((ByteArray.mk (sdec s).toArray).get! (A + 1)).toNat ((ByteArray.mk (sdec s).toArray).get! (A + 2)).toNat ((ByteArray.mk (sdec s).toArray).get! (A + 3)).toNat (by omega)
  unfold slen
  omega
theorem sbyte_beyond {s j : Int} (h : slen s ≤ j) : sbyte s j = 0 := by
  unfold sbyte
  rw [List.getElem?_eq_none (by unfold slen at h; omega)]; rfl
theorem ix_begin (s v : Int) : IxI s v 0 v := fun hv _ => ⟨hv, fun j h0 h1 => by omega⟩
theorem ix_end {s v q u : Int} (h : IxI s v q u) (hq : slen s ≤ q) : IxI s v (slen s) u := fun hv hj => by
  obtain ⟨h1, h2⟩ := h hv fun j h0 h1 => by
    by_cases hl : j < slen s
    · exact hj j h0 hl
    · rw [sbyte_beyond (by omega)]; omega
  exact ⟨h1, fun j h3 h4 => h2 j h3 (by omega)⟩
theorem ix_next {s v q u : Int} (h : IxI s v q u) (h0 : 0 ≤ q) (h1 : q < slen s) (hr : srune s q ≠ 34) (hb : ¬ (srune s q = 32 ∧ u = 0)) : IxI s v (q + swidth s q) u := fun hv hj => by
  have hw : 1 ≤ swidth s q := by rcases rune_spec h0 h1 with h | h <;> omega
  obtain ⟨h2, h3⟩ := h hv fun j hj0 hj1 => hj j hj0 (by omega)
  refine ⟨h2, fun j hj0 hj1 => ?_⟩
  rcases rune_spec h0 h1 with ⟨g1, g2, g3⟩ | ⟨g1, g2, g3⟩
  · by_cases hjq : j = q
    · subst hjq
      intro e
      exact hb ⟨by rw [g2, e], h2⟩
    · exact h3 j hj0 (by omega)
  · have := (hj q h0 (by omega)).1
    omega
theorem ix_quote {s v q u : Int} (_h : IxI s v q u) (h0 : 0 ≤ q) (h1 : q < slen s) (hr : srune s q = 34) (u' : Int) : IxI s v (q + swidth s q) u' := fun _ hj => by
  have hw : 1 ≤ swidth s q := by rcases rune_spec h0 h1 with h | h <;> omega
  have := hj q h0 (by omega)
  rcases rune_spec h0 h1 with ⟨g1, g2, g3⟩ | ⟨g1, g2, g3⟩ <;> omega
theorem ix_found {s v q u : Int} (h : IxI s v q u) (h0 : 0 ≤ q) (h1 : q < slen s) (hr : srune s q = 32) : IxP s v q u := by
  refine .inr ⟨h0, h1, ?_, h⟩
  rcases rune_spec h0 h1 with ⟨g1, g2, g3⟩ | ⟨g1, g2, g3⟩ <;> omega
end Go.Tt
namespace Go.Tt
open Go Go.Sx
set_option maxRecDepth 100000
def e0 : E := (.fn 1001 (.var 0) (.lit 0) (.lit 0) (.lit 0))
def e1 : E := (.lit 100000)
def p2 : PE := (.tt (.bin .le e0 e1))
def e3 : E := (.fn 8 (.var 0) (.lit 23) (.lit 0) (.lit 0))
def e4 : E := (.fn 9 (.var 0) (.lit 23) (.lit 0) (.lit 0))
def e5 : E := (.fn 1001 e3 (.lit 0) (.lit 0) (.lit 0))
def p6 : PE := (.tt (.bin .le (.lit 0) (.var 3)))
def e7 : E := (.fn 1004 e3 (.var 3) (.lit 0) (.lit 0))
def q8 : Tree := (.assert (.pr 10 [(.var 0), (.lit 0), (.lit 6)]) .ok)
def e9 : E := (.bin .add (.var 3) (.lit 1))
def p10 : PE := (.tt (.bin .le (.lit 0) e9))
def e11 : E := (.lit 1000000)
def e12 : E := (.fn 10 (.var 0) (.lit 0) (.lit 0) (.lit 0))
def e13 : E := (.fn 11 (.var 0) (.lit 0) (.lit 0) (.lit 0))
def q14 : Tree := (.assert (.pr 10 [(.var 0), (.lit 0), (.lit 7)]) .ok)
def q15 : Tree := (.assert (.tt (.bin .le e0 e11)) (.havoc false (.havoc false (.assume (.same (.var 4) e12) (.assume (.same (.var 5) e13) (.assume (.rng .i64 e12) (.branch (.bin .ne e13 (.lit 0)) q14 (.branch (.bin .lt e12 (.lit (-9223372036854775808))) q14 (.branch (.bin .lt (.lit 9223372036854775807) e12) q14 (.assert (.pr 10 [(.var 0), e12, (.lit 0)]) .ok))))))))))
def p16 : PE := (.tt (.bin .le (.lit 0) e0))
def e17 : E := (.bin .le (.lit 0) (.var 1))
def p18 : PE := (.tt (.bin .le (.var 1) e0))
def e19 : E := (.bin .lt (.var 1) e0)
def e20 : E := (.fn 1004 (.var 0) (.var 1) (.lit 0) (.lit 0))
def e21 : E := (.bin (.bits 1 .u8) e20 (.lit 32))
def e22 : E := (.fn 20 (.var 0) (.lit 0) (.lit 0) (.lit 0))
def q23 : Tree := (.assert (.same (.lit 0) e22) .ok)
def e24 : E := (.bin .eq (.bin .eq e20 (.lit 95)) (.lit 0))
def e25 : E := (.bin .le (.lit 48) e20)
def e26 : E := (.bin .eq (.bin .le e20 (.lit 57)) (.lit 0))
def e27 : E := (.bin .add (.var 1) (.lit 1))
def p28 : PE := (.rng .i64 e27)
def p29 : PE := (.tt (.bin .le (.lit 0) e27))
def p30 : PE := (.tt (.bin .le e27 e0))
def q31 : Tree := (.assert (.tt (.bin .le (.lit 0) (.bin .sub e0 e27))) (.assert (.tt (.bin .lt (.bin .sub e0 e27) (.bin .sub e0 (.var 1)))) .ok))
def q32 : Tree := (.assert p28 (.assert p29 (.assert p30 (.assert (.pr 40 [(.var 0), e27]) q31))))
def q33 : Tree := (.branch (.bin .eq (.var 1) (.lit 0)) q23 (.branch e24 (.branch e25 (.branch e26 q23 q32) q23) q32))
def e34 : E := (.bin .le (.lit 0) (.var 2))
def p35 : PE := (.tt (.bin .le (.var 2) e0))
def e36 : E := (.bin .lt (.var 2) e0)
def e37 : E := (.fn 1004 (.var 0) (.var 2) (.lit 0) (.lit 0))
def q38 : Tree := (.assert (.pr 41 [(.var 0), (.var 1), (.lit 0)]) .ok)
def e39 : E := (.bin .add (.var 2) (.lit 1))
def p40 : PE := (.rng .i64 e39)
def p41 : PE := (.tt (.bin .le (.lit 0) e39))
def p42 : PE := (.tt (.bin .le e39 e0))
def e43 : E := (.bin .sub e0 (.var 2))
def q44 : Tree := (.assert (.tt (.bin .le (.lit 0) (.bin .sub e0 e39))) (.assert (.tt (.bin .lt (.bin .sub e0 e39) e43)) .ok))
def e45 : E := (.lit 5000)
def e46 : E := (.fn 1001 (.lit 0) (.lit 0) (.lit 0) (.lit 0))
def q47 : Tree := (.assert (.tt (.bin .le e46 (.lit 10000))) .ok)
def e48 : E := (.bin .lt (.lit 0) e0)
def e49 : E := (.fn 1004 (.var 0) (.lit 0) (.lit 0) (.lit 0))
def e50 : E := (.bin .eq (.bin .eq e49 (.lit 34)) (.lit 0))
def e51 : E := (.bin .sub e0 (.lit 1))
def p52 : PE := (.rng .i64 e51)
def p53 : PE := (.tt (.bin .le (.lit 0) e51))
def p54 : PE := (.tt (.bin .lt e51 e0))
def e55 : E := (.fn 1004 (.var 0) e51 (.lit 0) (.lit 0))
def e56 : E := (.bin .eq (.bin .eq e55 (.lit 34)) (.lit 0))
def e57 : E := (.fn 1001 (.var 1) (.lit 0) (.lit 0) (.lit 0))
def e58 : E := (.lit 200)
def e59 : E := (.bin .le e57 e58)
def p60 : PE := (.tt (.bin .le e57 e1))
def p61 : PE := (.pr 41 [(.var 1), (.lit 32), (.var 2)])
def e62 : E := (.bin .eq (.var 2) (.lit 0))
def e63 : E := (.fn 1001 (.var 3) (.lit 0) (.lit 0) (.lit 0))
def e64 : E := (.fn 1002 (.lit (-18)) (.var 3) (.lit 0) (.lit 0))
def q65 : Tree := (.assert (.pr 15 [(.var 0), (.var 1), (.var 2)]) .ok)
def q66 : Tree := (.assert (.pr 15 [(.var 0), (.var 1), (.lit 0)]) .ok)
def e67 : E := (.bin .ne (.var 1) (.lit 0))
def e68 : E := (.fn 15 (.var 1) (.lit 34) (.lit 0) (.lit 0))
def e69 : E := (.fn 1010 (.var 0) (.var 2) (.lit 0) (.lit 0))
def e70 : E := (.bin .eq (.var 3) (.lit 0))
def e71 : E := (.bin .eq e70 (.lit 0))
def e72 : E := (.lit (-1))
def e73 : E := (.bin .add e0 (.lit 1))
def e74 : E := (.bin .add (.var 2) (.fn 1011 (.var 0) (.var 2) (.lit 0) (.lit 0)))
def q75 : Tree := (.assert (.tt (.bin .le (.lit 0) (.bin .sub e0 e74))) (.assert (.tt (.bin .lt (.bin .sub e0 e74) e43)) .ok))
def q76 : Tree := (.assert (.tt (.bin .le (.lit 0) e74)) (.assert (.tt (.bin .le e74 e0)) (.assert (.pr 36 [(.var 0), (.var 1), e74, e70]) q75)))
def q77 : Tree := (.assert (.tt (.bin .le (.lit 0) e74)) (.assert (.tt (.bin .le e74 e0)) (.assert (.pr 36 [(.var 0), (.var 1), e74, (.var 3)]) q75)))
def p78 : PE := (.pr 22 [.zt, (.lit 0)])
def q79 : Tree := (.assert (.pr 16 [(.var 0), .zt, (.lit 0), (.lit 3)]) .ok)
def p80 : PE := (.tt (.bin .le (.lit 0) (.var 4)))
def p81 : PE := (.tt (.bin .le e72 (.var 5)))
def e82 : E := (.fn 9 (.var 1) (.lit (-18)) (.lit 0) (.lit 0))
def e83 : E := (.fn 1001 (.var 8) (.lit 0) (.lit 0) (.lit 0))
def p84 : PE := (.tt (.bin .le e83 (.lit 10000)))
def e85 : E := (.bin .eq (.var 9) (.lit 0))
def q86 : Tree := (.assert (.pr 16 [(.var 0), .zt, (.lit 0), (.lit 6)]) .ok)
def p87 : PE := (.tt (.bin .le e83 e1))
def p88 : PE := (.pr 15 [(.lit 1), (.var 8), (.var 10)])
def e89 : E := (.bin .eq (.var 10) (.lit 0))
def e90 : E := (.bin .add (.var 4) (.lit 1))
def p91 : PE := (.tt (.bin .le e90 e11))
def p92 : PE := (.tt (.bin .le (.lit 0) e90))
def e93 : E := (.upd (.upd (.var 3) (.var 4) 0 (.lit 1)) (.var 4) 1 (.var 8))
def e94 : E := (.bin .eq (.var 8) (.lit 0))
def e95 : E := (.upd (.var 3) (.var 4) 0 (.lit 0))
def e96 : E := (.fn 1003 (.var 1) (.lit 0) (.var 5) (.lit 0))
def e97 : E := (.fn 9 e96 (.lit (-18)) (.lit 0) (.lit 0))
def e98 : E := (.fn 1001 e96 (.lit 0) (.lit 0) (.lit 0))
def e99 : E := (.bin .add (.var 5) (.lit 1))
def p100 : PE := (.rng .i64 e99)
def p101 : PE := (.tt (.bin .le (.lit 0) e99))
def e102 : E := (.fn 1003 (.var 1) e99 e57 (.lit 0))
def e103 : E := (.fn 1001 e102 (.lit 0) (.lit 0) (.lit 0))
def p104 : PE := (.tt (.bin .le (.bin .add e90 e103) e0))
def q105 : Tree := (.assert (.tt (.bin .le (.lit 0) e103)) (.assert (.tt (.bin .lt e103 e57)) .ok))
def p106 : PE := (.tt (.bin .le (.bin .add (.var 1) (.var 2)) (.var 4)))
def p107 : PE := (.tt (.bin .le e46 e1))
def q108 : Tree := (.assert p107 (.assert (.pr 33 [(.var 0), (.var 1), (.var 2), (.var 3), (.lit 0), (.var 1), (.var 2), (.lit 1)]) .ok))
def p109 : PE := (.tt (.bin .lt (.lit 0) (.var 2)))
def p110 : PE := (.tt (.bin .le (.lit 1) (.var 2)))
def p111 : PE := (.tt (.bin .le (.var 2) (.var 2)))
def e112 : E := (.bin .sub (.var 2) (.lit 1))
def p113 : PE := (.tt (.bin .le (.lit 0) e112))
def p114 : PE := (.tt (.bin .le (.lit 0) (.var 6)))
def p115 : PE := (.tt (.bin .le (.lit 0) (.var 7)))
def p116 : PE := (.tt (.bin .le (.fn 1001 (.var 5) (.lit 0) (.lit 0) (.lit 0)) e1))
def p117 : PE := (.rng .i64 (.var 9))
def p118 : PE := (.tt (.bin .le (.bin .add (.var 2) (.var 3)) (.var 1)))
def p119 : PE := (.tt (.bin .le (.var 3) (.lit 1000)))
def p120 : PE := (.tt (.bin .le (.var 4) (.var 3)))
def e121 : E := (.bin .add (.var 2) (.var 4))
def e122 : E := (.sel (.var 0) e121 0)
def p123 : PE := (.rng .i64 e90)
def q124 : Tree := (.assert (.tt (.bin .le (.lit 0) (.bin .sub (.var 3) e90))) (.assert (.tt (.bin .lt (.bin .sub (.var 3) e90) (.bin .sub (.var 3) (.var 4)))) .ok))
def e125 : E := (.lit (-1000000000000))
def q126 : Tree := (.assert (.pr 82 [(.var 0), (.var 2), (.var 3), (.bin .le (.lit 0) (.var 4))]) .ok)
def e127 : E := (.lit 1000000000000)
def p128 : PE := (.rng .i64 (.var 0))
def e129 : E := (.fn 1001 (.var 2) (.lit 0) (.lit 0) (.lit 0))
def p130 : PE := (.tt (.bin .le e129 e1))
def p131 : PE := (.rng .i64 (.var 3))
def p132 : PE := (.rng .i64 (.var 4))
def p133 : PE := (.rng .i64 (.var 5))
def p134 : PE := (.rng .i64 (.var 6))
def p135 : PE := (.rng .i64 (.var 7))
def q136 : Tree := (.assert (.pr 31 [(.var 0), (.var 1), (.var 2), (.var 3), (.var 4), (.var 5), (.var 6), (.var 7), (.lit 2)]) .ok)
def e137 : E := (.bin .eq (.var 6) (.lit 0))
def e138 : E := (.bin .eq (.var 7) (.lit 0))
def e139 : E := (.bin .eq e138 (.lit 0))
def e140 : E := (.bin .le (.lit 0) (.var 0))
def e141 : E := (.upd .zt (.lit 0) 0 (.lit 0))
def e142 : E := (.upd (.upd (.upd (.upd (.upd (.upd (.upd (.upd (.upd (.upd (.upd (.upd (.upd e141 (.lit 1) 0 (.lit 1)) (.lit 2) 0 (.lit 2)) (.lit 3) 0 (.lit 2)) (.lit 4) 0 (.lit 2)) (.lit 5) 0 (.lit 2)) (.lit 6) 0 (.lit 2)) (.lit 7) 0 (.lit 2)) (.lit 8) 0 (.lit 2)) (.lit 9) 0 (.lit 0)) (.lit 10) 0 (.lit 0)) (.lit 11) 0 (.lit 0)) (.lit 12) 0 (.lit 0)) (.lit 13) 0 (.lit 2))
def e143 : E := (.upd (.upd e141 (.lit 1) 0 (.lit 0)) (.lit 2) 0 (.lit 0))
def e144 : E := (.upd (.upd (.upd (.upd (.upd (.upd (.upd (.upd (.upd (.upd (.upd e143 (.lit 3) 0 (.lit 1)) (.lit 4) 0 (.lit 1)) (.lit 5) 0 (.lit 2)) (.lit 6) 0 (.lit 0)) (.lit 7) 0 (.lit 2)) (.lit 8) 0 (.lit 2)) (.lit 9) 0 (.lit 0)) (.lit 10) 0 (.lit 0)) (.lit 11) 0 (.lit 0)) (.lit 12) 0 (.lit 0)) (.lit 13) 0 (.lit 0))
def e145 : E := (.bin .eq (.sel e144 (.var 0) 0) (.lit 0))
def e146 : E := (.bin .ne (.var 2) (.lit 0))
def e147 : E := (.fn 20 (.var 2) (.lit 0) (.lit 0) (.lit 0))
def e148 : E := (.bin .eq e147 (.lit 0))
def e149 : E := (.upd (.upd (.upd (.upd (.upd (.upd (.upd (.upd (.upd (.upd (.upd (.upd (.upd e141 (.lit 1) 0 (.lit 3)) (.lit 2) 0 (.lit 0)) (.lit 3) 0 (.lit 2)) (.lit 4) 0 (.lit 0)) (.lit 5) 0 (.lit 0)) (.lit 6) 0 (.lit 0)) (.lit 7) 0 (.lit 1)) (.lit 8) 0 (.lit 2)) (.lit 9) 0 (.lit 1)) (.lit 10) 0 (.lit 0)) (.lit 11) 0 (.lit 1)) (.lit 12) 0 (.lit 3)) (.lit 13) 0 (.lit 0))
def e150 : E := (.sel e149 (.var 0) 0)
def p151 : PE := (.tt (.bin .le (.lit 0) e150))
def p152 : PE := (.tt (.bin .le e150 (.lit 3)))
def e153 : E := (.bin .sub (.lit 3) e150)
def p154 : PE := (.tt (.bin .le (.lit 0) e153))
def p155 : PE := (.tt (.bin .le (.bin .add e150 e153) (.lit 3)))
def p156 : PE := (.tt (.bin .le e153 (.lit 1000)))
def e157 : E := (.upd (.upd (.upd .zt (.lit 0) 0 (.var 3)) (.lit 1) 0 (.var 4)) (.lit 2) 0 (.var 5))
def q158 : Tree := (.assert (.pr 31 [(.var 0), (.var 1), (.var 2), (.var 3), (.var 4), (.var 5), (.var 6), (.var 7), (.lit 7)]) .ok)
def e159 : E := (.bin .eq (.var 6) (.lit 1))
def e160 : E := (.bin .eq (.var 6) (.lit 2))
def q161 : Tree := (.assert (.pr 31 [(.var 0), (.var 1), (.var 2), (.var 3), (.var 4), (.var 5), (.var 6), (.var 7), (.lit 0)]) .ok)
def q162 : Tree := (.branch e160 (.branch (.bin .lt (.var 7) (.lit 1)) q158 (.branch (.bin .lt (.lit 999) (.var 7)) q158 q161)) q161)
def q163 : Tree := (.branch e159 (.branch (.bin .lt (.var 7) e125) q158 (.branch (.bin .lt e127 (.var 7)) q158 q162)) q162)
def p164 : PE := (.pr 81 [e157, e150, e153, (.var 9)])
def q165 : Tree := (.assert (.pr 31 [(.var 0), (.var 1), (.var 2), (.var 3), (.var 4), (.var 5), (.var 6), (.var 7), (.lit 6)]) .ok)
def q166 : Tree := (.assert p151 (.assert p152 (.assert p154 (.assert p155 (.assert p156 (.havoc false (.assume p164 (.branch (.var 9) q136 q165))))))))
def q167 : Tree := (.assert p151 (.assert p152 (.assert p154 (.assert p155 (.assert p156 (.havoc false (.assume p164 (.branch (.var 9) q136 (.havoc false (.assume (.pr 82 [e157, (.lit 0), (.lit 3), (.var 10)]) (.branch (.var 10) q158 q163)))))))))))
def e168 : E := (.fn 20 (.var 1) (.lit 0) (.lit 0) (.lit 0))
def e169 : E := (.bin .eq e168 (.lit 0))
def p170 : PE := (.pr 81 [e157, e150, e153, (.var 10)])
def q171 : Tree := (.assert p151 (.assert p152 (.assert p154 (.assert p155 (.assert p156 (.havoc false (.assume p170 (.branch (.var 10) q136 q165))))))))
def q172 : Tree := (.assert (.tt e140) (.branch (.bin .eq (.sel e142 (.var 0) 0) (.lit 0)) (.branch e67 (.branch e145 (.branch e146 q136 q136) (.havoc false (.assume (.same (.var 8) e147) (.branch e148 q136 q136)))) (.branch e145 (.branch e146 q136 (.assert p151 (.assert p152 (.assert p154 (.assert p155 (.assert p156 (.havoc false (.assume (.pr 81 [e157, e150, e153, (.var 8)]) (.branch (.var 8) q136 (.havoc false (.assume (.pr 82 [e157, (.lit 0), (.lit 3), (.var 9)]) (.branch (.var 9) q158 q163)))))))))))) (.havoc false (.assume (.same (.var 8) e147) (.branch e148 q166 q167))))) (.havoc false (.assume (.same (.var 8) e168) (.branch e169 (.branch e145 (.branch e146 q136 q166) (.havoc false (.assume (.same (.var 9) e147) (.branch e148 q171 q171)))) (.branch e145 (.branch e146 q136 q167) (.havoc false (.assume (.same (.var 9) e147) (.branch e148 q171 (.assert p151 (.assert p152 (.assert p154 (.assert p155 (.assert p156 (.havoc false (.assume p170 (.branch (.var 10) q136 (.havoc false (.assume (.pr 82 [e157, (.lit 0), (.lit 3), (.var 11)]) (.branch (.var 11) q158 q163))))))))))))))))))))
def p173 : PE := (.pr 43 [(.var 0), (.var 1), (.var 2), (.var 3), (.var 4), (.var 5), (.var 6), (.var 7)])
def p174 : PE := (.tt (.bin .lt (.var 0) (.lit 14)))
def e175 : E := (.bin .lt (.lit 0) e150)
def e176 : E := (.fn 3 (.var 3) (.lit 0) (.lit 0) (.lit 0))
def p177 : PE := (.same (.var 8) e176)
def e178 : E := (.bin .lt (.lit 1) e150)
def e179 : E := (.fn 3 (.var 4) (.lit 0) (.lit 0) (.lit 0))
def p180 : PE := (.same (.var 9) e179)
def e181 : E := (.bin .lt (.lit 2) e150)
def e182 : E := (.fn 3 (.var 5) (.lit 0) (.lit 0) (.lit 0))
def p183 : PE := (.same (.var 10) e182)
def e184 : E := (.fn 3 (.var 7) (.lit 0) (.lit 0) (.lit 0))
def p185 : PE := (.same (.var 11) e184)
def e186 : E := (.lit 56327174044082)
def e187 : E := (.lit (-17231794176406323))
def e188 : E := (.lit 215691474609)
def e189 : E := (.lit (-55764601025338))
def e190 : E := (.lit (-252115039034))
def e191 : E := (.lit (-850475063))
def e192 : E := (.lit 220011707066)
def e193 : E := (.lit (-909260091))
def e194 : E := (.lit (-219919530809))
def e195 : E := (.lit (-252148397367))
def e196 : E := (.lit (-56325194363706))
def e197 : E := (.lit (-859061045))
def e198 : E := (.upd (.upd (.upd (.upd (.upd (.upd (.upd (.upd (.upd (.upd (.upd (.upd (.upd e141 (.lit 1) 0 e186) (.lit 2) 0 e187) (.lit 3) 0 e188) (.lit 4) 0 (.lit 909750583)) (.lit 5) 0 e189) (.lit 6) 0 e190) (.lit 7) 0 e191) (.lit 8) 0 e192) (.lit 9) 0 e193) (.lit 10) 0 e194) (.lit 11) 0 e195) (.lit 12) 0 e196) (.lit 13) 0 e197)
def e199 : E := (.upd .zt (.lit 0) 0 (.sel e198 (.var 0) 0))
def e200 : E := (.upd e199 (.lit 1) 0 (.var 1))
def e201 : E := (.upd e200 (.lit 2) 0 (.var 2))
def e202 : E := (.upd e201 (.lit 3) 0 e176)
def e203 : E := (.upd e202 (.lit 4) 0 e179)
def e204 : E := (.upd e203 (.lit 5) 0 e182)
def e205 : E := (.lit 14901)
def e206 : E := (.upd (.upd e204 (.lit 6) 0 e205) (.lit 7) 0 e184)
def e207 : E := (.lit (-17))
def e208 : E := (.fn 5 e206 (.lit 8) e207 (.lit 0))
def e209 : E := (.lit (-250025947444))
def e210 : E := (.upd (.upd e204 (.lit 6) 0 e209) (.lit 7) 0 e184)
def e211 : E := (.fn 5 e210 (.lit 8) e207 (.lit 0))
def e212 : E := (.fn 5 e204 (.lit 6) e207 (.lit 0))
def p213 : PE := (.same (.var 10) e184)
def e214 : E := (.upd (.upd e203 (.lit 5) 0 e205) (.lit 6) 0 e184)
def e215 : E := (.fn 5 e214 (.lit 7) e207 (.lit 0))
def e216 : E := (.upd (.upd e203 (.lit 5) 0 e209) (.lit 6) 0 e184)
def e217 : E := (.fn 5 e216 (.lit 7) e207 (.lit 0))
def e218 : E := (.fn 5 e203 (.lit 5) e207 (.lit 0))
def p219 : PE := (.same (.var 9) e184)
def e220 : E := (.upd (.upd e202 (.lit 4) 0 e205) (.lit 5) 0 e184)
def e221 : E := (.fn 5 e220 (.lit 6) e207 (.lit 0))
def e222 : E := (.upd (.upd e202 (.lit 4) 0 e209) (.lit 5) 0 e184)
def e223 : E := (.fn 5 e222 (.lit 6) e207 (.lit 0))
def e224 : E := (.fn 5 e202 (.lit 4) e207 (.lit 0))
def p225 : PE := (.same (.var 8) e184)
def e226 : E := (.upd (.upd e201 (.lit 3) 0 e205) (.lit 4) 0 e184)
def e227 : E := (.fn 5 e226 (.lit 5) e207 (.lit 0))
def e228 : E := (.upd (.upd e201 (.lit 3) 0 e209) (.lit 4) 0 e184)
def e229 : E := (.fn 5 e228 (.lit 5) e207 (.lit 0))
def e230 : E := (.fn 5 e201 (.lit 3) e207 (.lit 0))
def e231 : E := (.upd e200 (.lit 2) 0 e176)
def e232 : E := (.upd e231 (.lit 3) 0 e179)
def e233 : E := (.upd e232 (.lit 4) 0 e182)
def e234 : E := (.upd (.upd e233 (.lit 5) 0 e205) (.lit 6) 0 e184)
def e235 : E := (.fn 5 e234 (.lit 7) e207 (.lit 0))
def e236 : E := (.upd (.upd e233 (.lit 5) 0 e209) (.lit 6) 0 e184)
def e237 : E := (.fn 5 e236 (.lit 7) e207 (.lit 0))
def e238 : E := (.fn 5 e233 (.lit 5) e207 (.lit 0))
def e239 : E := (.upd (.upd e232 (.lit 4) 0 e205) (.lit 5) 0 e184)
def e240 : E := (.fn 5 e239 (.lit 6) e207 (.lit 0))
def e241 : E := (.upd (.upd e232 (.lit 4) 0 e209) (.lit 5) 0 e184)
def e242 : E := (.fn 5 e241 (.lit 6) e207 (.lit 0))
def e243 : E := (.fn 5 e232 (.lit 4) e207 (.lit 0))
def e244 : E := (.upd (.upd e231 (.lit 3) 0 e205) (.lit 4) 0 e184)
def e245 : E := (.fn 5 e244 (.lit 5) e207 (.lit 0))
def e246 : E := (.upd (.upd e231 (.lit 3) 0 e209) (.lit 4) 0 e184)
def e247 : E := (.fn 5 e246 (.lit 5) e207 (.lit 0))
def e248 : E := (.fn 5 e231 (.lit 3) e207 (.lit 0))
def e249 : E := (.upd (.upd e200 (.lit 2) 0 e205) (.lit 3) 0 e184)
def e250 : E := (.fn 5 e249 (.lit 4) e207 (.lit 0))
def e251 : E := (.upd (.upd e200 (.lit 2) 0 e209) (.lit 3) 0 e184)
def e252 : E := (.fn 5 e251 (.lit 4) e207 (.lit 0))
def e253 : E := (.fn 5 e200 (.lit 2) e207 (.lit 0))
def e254 : E := (.upd e199 (.lit 1) 0 (.var 2))
def e255 : E := (.upd e254 (.lit 2) 0 e176)
def e256 : E := (.upd e255 (.lit 3) 0 e179)
def e257 : E := (.upd e256 (.lit 4) 0 e182)
def e258 : E := (.upd (.upd e257 (.lit 5) 0 e205) (.lit 6) 0 e184)
def e259 : E := (.fn 5 e258 (.lit 7) e207 (.lit 0))
def e260 : E := (.upd (.upd e257 (.lit 5) 0 e209) (.lit 6) 0 e184)
def e261 : E := (.fn 5 e260 (.lit 7) e207 (.lit 0))
def e262 : E := (.fn 5 e257 (.lit 5) e207 (.lit 0))
def e263 : E := (.upd (.upd e256 (.lit 4) 0 e205) (.lit 5) 0 e184)
def e264 : E := (.fn 5 e263 (.lit 6) e207 (.lit 0))
def e265 : E := (.upd (.upd e256 (.lit 4) 0 e209) (.lit 5) 0 e184)
def e266 : E := (.fn 5 e265 (.lit 6) e207 (.lit 0))
def e267 : E := (.fn 5 e256 (.lit 4) e207 (.lit 0))
def e268 : E := (.upd (.upd e255 (.lit 3) 0 e205) (.lit 4) 0 e184)
def e269 : E := (.fn 5 e268 (.lit 5) e207 (.lit 0))
def e270 : E := (.upd (.upd e255 (.lit 3) 0 e209) (.lit 4) 0 e184)
def e271 : E := (.fn 5 e270 (.lit 5) e207 (.lit 0))
def e272 : E := (.fn 5 e255 (.lit 3) e207 (.lit 0))
def e273 : E := (.upd (.upd e254 (.lit 2) 0 e205) (.lit 3) 0 e184)
def e274 : E := (.fn 5 e273 (.lit 4) e207 (.lit 0))
def e275 : E := (.upd (.upd e254 (.lit 2) 0 e209) (.lit 3) 0 e184)
def e276 : E := (.fn 5 e275 (.lit 4) e207 (.lit 0))
def e277 : E := (.fn 5 e254 (.lit 2) e207 (.lit 0))
def e278 : E := (.upd e199 (.lit 1) 0 e176)
def e279 : E := (.upd e278 (.lit 2) 0 e179)
def e280 : E := (.upd e279 (.lit 3) 0 e182)
def e281 : E := (.upd (.upd e280 (.lit 4) 0 e205) (.lit 5) 0 e184)
def e282 : E := (.fn 5 e281 (.lit 6) e207 (.lit 0))
def e283 : E := (.upd (.upd e280 (.lit 4) 0 e209) (.lit 5) 0 e184)
def e284 : E := (.fn 5 e283 (.lit 6) e207 (.lit 0))
def e285 : E := (.fn 5 e280 (.lit 4) e207 (.lit 0))
def e286 : E := (.upd (.upd e279 (.lit 3) 0 e205) (.lit 4) 0 e184)
def e287 : E := (.fn 5 e286 (.lit 5) e207 (.lit 0))
def e288 : E := (.upd (.upd e279 (.lit 3) 0 e209) (.lit 4) 0 e184)
def e289 : E := (.fn 5 e288 (.lit 5) e207 (.lit 0))
def e290 : E := (.fn 5 e279 (.lit 3) e207 (.lit 0))
def e291 : E := (.upd (.upd e278 (.lit 2) 0 e205) (.lit 3) 0 e184)
def e292 : E := (.fn 5 e291 (.lit 4) e207 (.lit 0))
def e293 : E := (.upd (.upd e278 (.lit 2) 0 e209) (.lit 3) 0 e184)
def e294 : E := (.fn 5 e293 (.lit 4) e207 (.lit 0))
def e295 : E := (.fn 5 e278 (.lit 2) e207 (.lit 0))
def e296 : E := (.upd (.upd e199 (.lit 1) 0 e205) (.lit 2) 0 e184)
def e297 : E := (.fn 5 e296 (.lit 3) e207 (.lit 0))
def e298 : E := (.upd (.upd e199 (.lit 1) 0 e209) (.lit 2) 0 e184)
def e299 : E := (.fn 5 e298 (.lit 3) e207 (.lit 0))
def e300 : E := (.fn 5 e199 (.lit 1) e207 (.lit 0))
def p301 : PE := (.tt (.bin .le (.var 2) (.lit 64)))
def p302 : PE := (.pr 16 [(.var 0), (.var 1), (.var 2), (.var 3)])
def q303 : Tree := (.assert p107 (.assert (.pr 34 [(.var 0), (.lit 0), (.lit 0), (.lit 0), (.lit 0), (.lit 0), (.lit 0), (.lit 0), (.lit 0), (.lit 0)]) .ok))
def p304 : PE := (.tt (.bin .le (.lit 0) (.var 5)))
def p305 : PE := (.tt (.bin .le (.fn 1001 (.var 4) (.lit 0) (.lit 0) (.lit 0)) e1))
def p306 : PE := (.tt (.bin .le (.lit 0) (.var 9)))
def p307 : PE := (.tt (.bin .le (.lit 0) (.var 10)))
def p308 : PE := (.tt (.bin .le (.bin .add (.var 9) (.var 10)) (.var 2)))
def p309 : PE := (.pr 33 [(.var 1), (.var 5), (.var 6), (.var 7), (.var 8), (.var 9), (.var 10), (.var 11)])
def p310 : PE := (.rng .i64 (.var 12))
def e311 : E := (.bin .le (.lit 0) (.var 13))
def p312 : PE := (.tt e311)
def e313 : E := (.bin .le (.lit 0) (.var 14))
def p314 : PE := (.tt e313)
def p315 : PE := (.tt (.bin .le (.bin .add (.var 13) (.var 14)) (.var 2)))
def p316 : PE := (.pr 38 [(.var 1), (.var 9), (.var 10), (.var 11), (.var 12), (.var 13), (.var 14), (.var 15)])
def p317 : PE := (.rng .i64 (.var 16))
def p318 : PE := (.tt (.bin .le (.lit 0) (.var 17)))
def p319 : PE := (.tt (.bin .le (.lit 0) (.var 18)))
def p320 : PE := (.tt (.bin .le (.bin .add (.var 17) (.var 18)) (.var 2)))
def p321 : PE := (.pr 38 [(.var 1), (.var 13), (.var 14), (.var 15), (.var 16), (.var 17), (.var 18), (.var 19)])
def p322 : PE := (.rng .i64 (.var 20))
def p323 : PE := (.tt (.bin .le (.lit 0) (.var 21)))
def p324 : PE := (.tt (.bin .le (.lit 0) (.var 22)))
def p325 : PE := (.tt (.bin .le (.bin .add (.var 21) (.var 22)) (.var 2)))
def p326 : PE := (.pr 38 [(.var 1), (.var 17), (.var 18), (.var 19), (.var 20), (.var 21), (.var 22), (.var 23)])
def e327 : E := (.bin .eq (.var 22) (.lit 0))
def e328 : E := (.bin .eq (.var 23) (.lit 0))
def p329 : PE := (.tt (.bin .le (.lit 0) (.var 25)))
def p330 : PE := (.tt (.bin .le (.lit 0) (.var 26)))
def p331 : PE := (.tt (.bin .le (.bin .add (.var 25) (.var 26)) (.var 2)))
def p332 : PE := (.tt (.bin .le (.fn 1001 (.var 24) (.lit 0) (.lit 0) (.lit 0)) e1))
def p333 : PE := (.pr 33 [(.var 1), (.var 21), (.var 22), (.var 23), (.var 24), (.var 25), (.var 26), (.var 27)])
def e334 : E := (.bin .eq (.var 24) e205)
def p335 : PE := (.rng .i64 (.var 28))
def p336 : PE := (.tt (.bin .le (.lit 0) (.var 29)))
def p337 : PE := (.tt (.bin .le (.lit 0) (.var 30)))
def p338 : PE := (.tt (.bin .le (.bin .add (.var 29) (.var 30)) (.var 2)))
def p339 : PE := (.pr 38 [(.var 1), (.var 25), (.var 26), (.var 27), (.var 28), (.var 29), (.var 30), (.var 31)])
def e340 : E := (.bin .eq (.var 31) (.lit 0))
def e341 : E := (.bin .eq (.var 30) (.lit 0))
def e342 : E := (.bin .eq (.var 24) e209)
def p343 : PE := (.pr 38 [(.var 1), (.var 25), (.var 26), (.lit 1), (.var 28), (.var 29), (.var 30), (.var 31)])
def e344 : E := (.bin .eq (.var 11) (.lit 0))
def e345 : E := (.fn 1001 (.var 12) (.lit 0) (.lit 0) (.lit 0))
def p346 : PE := (.tt (.bin .le e345 e1))
def p347 : PE := (.pr 33 [(.var 1), (.var 9), (.var 10), (.var 11), (.var 12), (.var 13), (.var 14), (.var 15)])
def e348 : E := (.bin .eq (.var 12) e205)
def e349 : E := (.bin .eq (.var 19) (.lit 0))
def e350 : E := (.bin .eq (.var 18) (.lit 0))
def e351 : E := (.bin .eq (.var 12) e209)
def p352 : PE := (.pr 38 [(.var 1), (.var 13), (.var 14), (.lit 1), (.var 16), (.var 17), (.var 18), (.var 19)])
def e353 : E := (.bin .eq (.var 14) (.lit 0))
def e354 : E := (.bin .eq (.var 15) (.lit 0))
def p355 : PE := (.tt (.bin .le (.fn 1001 (.var 16) (.lit 0) (.lit 0) (.lit 0)) e1))
def p356 : PE := (.pr 33 [(.var 1), (.var 13), (.var 14), (.var 15), (.var 16), (.var 17), (.var 18), (.var 19)])
def p357 : PE := (.pr 38 [(.var 1), (.var 17), (.var 18), (.lit 1), (.var 20), (.var 21), (.var 22), (.var 23)])
def p358 : PE := (.tt (.bin .le (.fn 1001 (.var 20) (.lit 0) (.lit 0) (.lit 0)) e1))
def p359 : PE := (.pr 33 [(.var 1), (.var 17), (.var 18), (.var 19), (.var 20), (.var 21), (.var 22), (.var 23)])
def p360 : PE := (.rng .i64 (.var 24))
def p361 : PE := (.pr 38 [(.var 1), (.var 21), (.var 22), (.var 23), (.var 24), (.var 25), (.var 26), (.var 27)])
def e362 : E := (.bin .eq (.var 27) (.lit 0))
def e363 : E := (.bin .eq (.var 26) (.lit 0))
def p364 : PE := (.pr 38 [(.var 1), (.var 21), (.var 22), (.lit 1), (.var 24), (.var 25), (.var 26), (.var 27)])
def p365 : PE := (.rng .i64 (.var 8))
def p366 : PE := (.pr 38 [(.var 1), (.var 5), (.var 6), (.var 7), (.var 8), (.var 9), (.var 10), (.var 11)])
def q367 : Tree := (.branch (.bin .eq e186 (.var 4)) (.havoc false (.havoc false (.havoc false (.havoc false (.assume p306 (.assume p307 (.assume p308 (.assume p87 (.assume p309 (.havoc false (.havoc false (.havoc false (.havoc false (.assume p310 (.assume p312 (.assume p314 (.assume p315 (.assume p316 (.havoc false (.havoc false (.havoc false (.havoc false (.assume p317 (.assume p318 (.assume p319 (.assume p320 (.assume p321 (.havoc false (.havoc false (.havoc false (.havoc false (.assume p322 (.assume p323 (.assume p324 (.assume p325 (.assume p326 (.branch e327 (.branch e328 (.assert p107 (.assert (.pr 34 [(.var 0), (.lit 1), (.var 8), (.lit 0), (.var 12), (.var 16), (.var 20), (.lit 0), (.lit 0), e327]) .ok)) (.assert p107 (.assert (.pr 34 [(.var 0), (.lit 1), (.var 8), (.lit 0), (.var 12), (.var 16), (.var 20), (.lit 0), (.lit 0), (.lit 0)]) .ok))) (.havoc false (.havoc false (.havoc false (.havoc false (.assume p329 (.assume p330 (.assume p331 (.assume p332 (.assume p333 (.branch e334 (.havoc false (.havoc false (.havoc false (.havoc false (.assume p335 (.assume p336 (.assume p337 (.assume p338 (.assume p339 (.branch e340 (.assert p107 (.assert (.pr 34 [(.var 0), (.lit 1), (.var 8), (.lit 0), (.var 12), (.var 16), (.var 20), (.lit 1), (.var 28), e341]) .ok)) (.assert p107 (.assert (.pr 34 [(.var 0), (.lit 1), (.var 8), (.lit 0), (.var 12), (.var 16), (.var 20), (.lit 1), (.var 28), (.lit 0)]) .ok)))))))))))) (.branch e342 (.havoc false (.havoc false (.havoc false (.havoc false (.assume p335 (.assume p336 (.assume p337 (.assume p338 (.assume p339 (.branch e340 (.assert p107 (.assert (.pr 34 [(.var 0), (.lit 1), (.var 8), (.lit 0), (.var 12), (.var 16), (.var 20), (.lit 2), (.var 28), e341]) .ok)) (.assert p107 (.assert (.pr 34 [(.var 0), (.lit 1), (.var 8), (.lit 0), (.var 12), (.var 16), (.var 20), (.lit 2), (.var 28), (.lit 0)]) .ok)))))))))))) (.havoc false (.havoc false (.havoc false (.havoc false (.assume p335 (.assume p336 (.assume p337 (.assume p338 (.assume p343 (.branch e340 (.assert p107 (.assert (.pr 34 [(.var 0), (.lit 1), (.var 8), (.lit 0), (.var 12), (.var 16), (.var 20), (.lit 0), (.var 28), e341]) .ok)) (.assert p107 (.assert (.pr 34 [(.var 0), (.lit 1), (.var 8), (.lit 0), (.var 12), (.var 16), (.var 20), (.lit 0), (.var 28), (.lit 0)]) .ok)))))))))))))))))))))))))))))))))))))))))))))))))))))))))))) (.branch (.bin .eq e187 (.var 4)) (.havoc false (.havoc false (.havoc false (.havoc false (.assume p306 (.assume p307 (.assume p308 (.assume p87 (.assume p309 (.branch e89 (.branch e344 (.assert p107 (.assert (.pr 34 [(.var 0), (.lit 2), (.var 8), (.lit 0), (.lit 0), (.lit 0), (.lit 0), (.lit 0), (.lit 0), e89]) .ok)) (.assert p107 (.assert (.pr 34 [(.var 0), (.lit 2), (.var 8), (.lit 0), (.lit 0), (.lit 0), (.lit 0), (.lit 0), (.lit 0), (.lit 0)]) .ok))) (.havoc false (.havoc false (.havoc false (.havoc false (.assume p312 (.assume p314 (.assume p315 (.assume p346 (.assume p347 (.branch e348 (.havoc false (.havoc false (.havoc false (.havoc false (.assume p317 (.assume p318 (.assume p319 (.assume p320 (.assume p321 (.branch e349 (.assert p107 (.assert (.pr 34 [(.var 0), (.lit 2), (.var 8), (.lit 0), (.lit 0), (.lit 0), (.lit 0), (.lit 1), (.var 16), e350]) .ok)) (.assert p107 (.assert (.pr 34 [(.var 0), (.lit 2), (.var 8), (.lit 0), (.lit 0), (.lit 0), (.lit 0), (.lit 1), (.var 16), (.lit 0)]) .ok)))))))))))) (.branch e351 (.havoc false (.havoc false (.havoc false (.havoc false (.assume p317 (.assume p318 (.assume p319 (.assume p320 (.assume p321 (.branch e349 (.assert p107 (.assert (.pr 34 [(.var 0), (.lit 2), (.var 8), (.lit 0), (.lit 0), (.lit 0), (.lit 0), (.lit 2), (.var 16), e350]) .ok)) (.assert p107 (.assert (.pr 34 [(.var 0), (.lit 2), (.var 8), (.lit 0), (.lit 0), (.lit 0), (.lit 0), (.lit 2), (.var 16), (.lit 0)]) .ok)))))))))))) (.havoc false (.havoc false (.havoc false (.havoc false (.assume p317 (.assume p318 (.assume p319 (.assume p320 (.assume p352 (.branch e349 (.assert p107 (.assert (.pr 34 [(.var 0), (.lit 2), (.var 8), (.lit 0), (.lit 0), (.lit 0), (.lit 0), (.lit 0), (.var 16), e350]) .ok)) (.assert p107 (.assert (.pr 34 [(.var 0), (.lit 2), (.var 8), (.lit 0), (.lit 0), (.lit 0), (.lit 0), (.lit 0), (.var 16), (.lit 0)]) .ok))))))))))))))))))))))))))))))))) (.branch (.bin .eq e188 (.var 4)) (.havoc false (.havoc false (.havoc false (.havoc false (.assume p306 (.assume p307 (.assume p308 (.assume p87 (.assume p309 (.havoc false (.havoc false (.havoc false (.havoc false (.assume p312 (.assume p314 (.assume p315 (.assume p346 (.assume p347 (.havoc false (.havoc false (.havoc false (.havoc false (.assume p317 (.assume p318 (.assume p319 (.assume p320 (.assume p321 (.havoc false (.havoc false (.havoc false (.havoc false (.assume p322 (.assume p323 (.assume p324 (.assume p325 (.assume p326 (.branch e327 (.branch e328 (.assert (.pr 34 [(.var 0), (.lit 3), (.var 8), (.var 12), (.var 16), (.var 20), (.lit 0), (.lit 0), (.lit 0), e327]) .ok) (.assert (.pr 34 [(.var 0), (.lit 3), (.var 8), (.var 12), (.var 16), (.var 20), (.lit 0), (.lit 0), (.lit 0), (.lit 0)]) .ok)) (.havoc false (.havoc false (.havoc false (.havoc false (.assume p329 (.assume p330 (.assume p331 (.assume p332 (.assume p333 (.branch e334 (.havoc false (.havoc false (.havoc false (.havoc false (.assume p335 (.assume p336 (.assume p337 (.assume p338 (.assume p339 (.branch e340 (.assert (.pr 34 [(.var 0), (.lit 3), (.var 8), (.var 12), (.var 16), (.var 20), (.lit 0), (.lit 1), (.var 28), e341]) .ok) (.assert (.pr 34 [(.var 0), (.lit 3), (.var 8), (.var 12), (.var 16), (.var 20), (.lit 0), (.lit 1), (.var 28), (.lit 0)]) .ok))))))))))) (.branch e342 (.havoc false (.havoc false (.havoc false (.havoc false (.assume p335 (.assume p336 (.assume p337 (.assume p338 (.assume p339 (.branch e340 (.assert (.pr 34 [(.var 0), (.lit 3), (.var 8), (.var 12), (.var 16), (.var 20), (.lit 0), (.lit 2), (.var 28), e341]) .ok) (.assert (.pr 34 [(.var 0), (.lit 3), (.var 8), (.var 12), (.var 16), (.var 20), (.lit 0), (.lit 2), (.var 28), (.lit 0)]) .ok))))))))))) (.havoc false (.havoc false (.havoc false (.havoc false (.assume p335 (.assume p336 (.assume p337 (.assume p338 (.assume p343 (.branch e340 (.assert (.pr 34 [(.var 0), (.lit 3), (.var 8), (.var 12), (.var 16), (.var 20), (.lit 0), (.lit 0), (.var 28), e341]) .ok) (.assert (.pr 34 [(.var 0), (.lit 3), (.var 8), (.var 12), (.var 16), (.var 20), (.lit 0), (.lit 0), (.var 28), (.lit 0)]) .ok))))))))))))))))))))))))))))))))))))))))))))))))))))))))))) (.branch (.bin .eq (.lit 909750583) (.var 4)) (.havoc false (.havoc false (.havoc false (.havoc false (.assume p306 (.assume p307 (.assume p308 (.assume p87 (.assume p309 (.havoc false (.havoc false (.havoc false (.havoc false (.assume p312 (.assume p314 (.assume p315 (.assume p346 (.assume p347 (.branch e353 (.branch e354 (.assert (.pr 34 [(.var 0), (.lit 4), (.var 8), (.var 12), (.lit 0), (.lit 0), (.lit 0), (.lit 0), (.lit 0), e353]) .ok) (.assert (.pr 34 [(.var 0), (.lit 4), (.var 8), (.var 12), (.lit 0), (.lit 0), (.lit 0), (.lit 0), (.lit 0), (.lit 0)]) .ok)) (.havoc false (.havoc false (.havoc false (.havoc false (.assume p318 (.assume p319 (.assume p320 (.assume p355 (.assume p356 (.branch (.bin .eq (.var 16) e205) (.havoc false (.havoc false (.havoc false (.havoc false (.assume p322 (.assume p323 (.assume p324 (.assume p325 (.assume p326 (.branch e328 (.assert (.pr 34 [(.var 0), (.lit 4), (.var 8), (.var 12), (.lit 0), (.lit 0), (.lit 0), (.lit 1), (.var 20), e327]) .ok) (.assert (.pr 34 [(.var 0), (.lit 4), (.var 8), (.var 12), (.lit 0), (.lit 0), (.lit 0), (.lit 1), (.var 20), (.lit 0)]) .ok))))))))))) (.branch (.bin .eq (.var 16) e209) (.havoc false (.havoc false (.havoc false (.havoc false (.assume p322 (.assume p323 (.assume p324 (.assume p325 (.assume p326 (.branch e328 (.assert (.pr 34 [(.var 0), (.lit 4), (.var 8), (.var 12), (.lit 0), (.lit 0), (.lit 0), (.lit 2), (.var 20), e327]) .ok) (.assert (.pr 34 [(.var 0), (.lit 4), (.var 8), (.var 12), (.lit 0), (.lit 0), (.lit 0), (.lit 2), (.var 20), (.lit 0)]) .ok))))))))))) (.havoc false (.havoc false (.havoc false (.havoc false (.assume p322 (.assume p323 (.assume p324 (.assume p325 (.assume p357 (.branch e328 (.assert (.pr 34 [(.var 0), (.lit 4), (.var 8), (.var 12), (.lit 0), (.lit 0), (.lit 0), (.lit 0), (.var 20), e327]) .ok) (.assert (.pr 34 [(.var 0), (.lit 4), (.var 8), (.var 12), (.lit 0), (.lit 0), (.lit 0), (.lit 0), (.var 20), (.lit 0)]) .ok))))))))))))))))))))))))))))))))))))))))) (.branch (.bin .eq e189 (.var 4)) (.havoc false (.havoc false (.havoc false (.havoc false (.assume p306 (.assume p307 (.assume p308 (.assume p87 (.assume p309 (.havoc false (.havoc false (.havoc false (.havoc false (.assume p312 (.assume p314 (.assume p315 (.assume p346 (.assume p347 (.branch e353 (.branch e354 (.assert (.pr 34 [(.var 0), (.lit 5), (.var 8), (.var 12), (.lit 0), (.lit 0), (.lit 0), (.lit 0), (.lit 0), e353]) .ok) (.assert (.pr 34 [(.var 0), (.lit 5), (.var 8), (.var 12), (.lit 0), (.lit 0), (.lit 0), (.lit 0), (.lit 0), (.lit 0)]) .ok)) (.havoc false (.havoc false (.havoc false (.havoc false (.assume p318 (.assume p319 (.assume p320 (.assume p355 (.assume p356 (.branch (.bin .eq (.var 16) e205) (.havoc false (.havoc false (.havoc false (.havoc false (.assume p322 (.assume p323 (.assume p324 (.assume p325 (.assume p326 (.branch e328 (.assert (.pr 34 [(.var 0), (.lit 5), (.var 8), (.var 12), (.lit 0), (.lit 0), (.lit 0), (.lit 1), (.var 20), e327]) .ok) (.assert (.pr 34 [(.var 0), (.lit 5), (.var 8), (.var 12), (.lit 0), (.lit 0), (.lit 0), (.lit 1), (.var 20), (.lit 0)]) .ok))))))))))) (.branch (.bin .eq (.var 16) e209) (.havoc false (.havoc false (.havoc false (.havoc false (.assume p322 (.assume p323 (.assume p324 (.assume p325 (.assume p326 (.branch e328 (.assert (.pr 34 [(.var 0), (.lit 5), (.var 8), (.var 12), (.lit 0), (.lit 0), (.lit 0), (.lit 2), (.var 20), e327]) .ok) (.assert (.pr 34 [(.var 0), (.lit 5), (.var 8), (.var 12), (.lit 0), (.lit 0), (.lit 0), (.lit 2), (.var 20), (.lit 0)]) .ok))))))))))) (.havoc false (.havoc false (.havoc false (.havoc false (.assume p322 (.assume p323 (.assume p324 (.assume p325 (.assume p357 (.branch e328 (.assert (.pr 34 [(.var 0), (.lit 5), (.var 8), (.var 12), (.lit 0), (.lit 0), (.lit 0), (.lit 0), (.var 20), e327]) .ok) (.assert (.pr 34 [(.var 0), (.lit 5), (.var 8), (.var 12), (.lit 0), (.lit 0), (.lit 0), (.lit 0), (.var 20), (.lit 0)]) .ok))))))))))))))))))))))))))))))))))))))))) (.branch (.bin .eq e190 (.var 4)) (.havoc false (.havoc false (.havoc false (.havoc false (.assume p306 (.assume p307 (.assume p308 (.assume p87 (.assume p309 (.branch e89 (.branch e344 (.assert p107 (.assert (.pr 34 [(.var 0), (.lit 6), (.var 8), (.lit 0), (.lit 0), (.lit 0), (.lit 0), (.lit 0), (.lit 0), e89]) .ok)) (.assert p107 (.assert (.pr 34 [(.var 0), (.lit 6), (.var 8), (.lit 0), (.lit 0), (.lit 0), (.lit 0), (.lit 0), (.lit 0), (.lit 0)]) .ok))) (.havoc false (.havoc false (.havoc false (.havoc false (.assume p312 (.assume p314 (.assume p315 (.assume p346 (.assume p347 (.branch e348 (.havoc false (.havoc false (.havoc false (.havoc false (.assume p317 (.assume p318 (.assume p319 (.assume p320 (.assume p321 (.branch e349 (.assert p107 (.assert (.pr 34 [(.var 0), (.lit 6), (.var 8), (.lit 0), (.lit 0), (.lit 0), (.lit 0), (.lit 1), (.var 16), e350]) .ok)) (.assert p107 (.assert (.pr 34 [(.var 0), (.lit 6), (.var 8), (.lit 0), (.lit 0), (.lit 0), (.lit 0), (.lit 1), (.var 16), (.lit 0)]) .ok)))))))))))) (.branch e351 (.havoc false (.havoc false (.havoc false (.havoc false (.assume p317 (.assume p318 (.assume p319 (.assume p320 (.assume p321 (.branch e349 (.assert p107 (.assert (.pr 34 [(.var 0), (.lit 6), (.var 8), (.lit 0), (.lit 0), (.lit 0), (.lit 0), (.lit 2), (.var 16), e350]) .ok)) (.assert p107 (.assert (.pr 34 [(.var 0), (.lit 6), (.var 8), (.lit 0), (.lit 0), (.lit 0), (.lit 0), (.lit 2), (.var 16), (.lit 0)]) .ok)))))))))))) (.havoc false (.havoc false (.havoc false (.havoc false (.assume p317 (.assume p318 (.assume p319 (.assume p320 (.assume p352 (.branch e349 (.assert p107 (.assert (.pr 34 [(.var 0), (.lit 6), (.var 8), (.lit 0), (.lit 0), (.lit 0), (.lit 0), (.lit 0), (.var 16), e350]) .ok)) (.assert p107 (.assert (.pr 34 [(.var 0), (.lit 6), (.var 8), (.lit 0), (.lit 0), (.lit 0), (.lit 0), (.lit 0), (.var 16), (.lit 0)]) .ok))))))))))))))))))))))))))))))))) (.branch (.bin .eq e191 (.var 4)) (.havoc false (.havoc false (.havoc false (.havoc false (.assume p306 (.assume p307 (.assume p308 (.assume p87 (.assume p309 (.havoc false (.havoc false (.havoc false (.havoc false (.assume p312 (.assume p314 (.assume p315 (.assume p346 (.assume p347 (.havoc false (.havoc false (.havoc false (.havoc false (.assume p317 (.assume p318 (.assume p319 (.assume p320 (.assume p321 (.branch e350 (.branch e349 (.assert (.pr 34 [(.var 0), (.lit 7), (.var 8), (.var 12), (.var 16), (.lit 0), (.lit 0), (.lit 0), (.lit 0), e350]) .ok) (.assert (.pr 34 [(.var 0), (.lit 7), (.var 8), (.var 12), (.var 16), (.lit 0), (.lit 0), (.lit 0), (.lit 0), (.lit 0)]) .ok)) (.havoc false (.havoc false (.havoc false (.havoc false (.assume p323 (.assume p324 (.assume p325 (.assume p358 (.assume p359 (.branch (.bin .eq (.var 20) e205) (.havoc false (.havoc false (.havoc false (.havoc false (.assume p360 (.assume p329 (.assume p330 (.assume p331 (.assume p361 (.branch e362 (.assert (.pr 34 [(.var 0), (.lit 7), (.var 8), (.var 12), (.var 16), (.lit 0), (.lit 0), (.lit 1), (.var 24), e363]) .ok) (.assert (.pr 34 [(.var 0), (.lit 7), (.var 8), (.var 12), (.var 16), (.lit 0), (.lit 0), (.lit 1), (.var 24), (.lit 0)]) .ok))))))))))) (.branch (.bin .eq (.var 20) e209) (.havoc false (.havoc false (.havoc false (.havoc false (.assume p360 (.assume p329 (.assume p330 (.assume p331 (.assume p361 (.branch e362 (.assert (.pr 34 [(.var 0), (.lit 7), (.var 8), (.var 12), (.var 16), (.lit 0), (.lit 0), (.lit 2), (.var 24), e363]) .ok) (.assert (.pr 34 [(.var 0), (.lit 7), (.var 8), (.var 12), (.var 16), (.lit 0), (.lit 0), (.lit 2), (.var 24), (.lit 0)]) .ok))))))))))) (.havoc false (.havoc false (.havoc false (.havoc false (.assume p360 (.assume p329 (.assume p330 (.assume p331 (.assume p364 (.branch e362 (.assert (.pr 34 [(.var 0), (.lit 7), (.var 8), (.var 12), (.var 16), (.lit 0), (.lit 0), (.lit 0), (.var 24), e363]) .ok) (.assert (.pr 34 [(.var 0), (.lit 7), (.var 8), (.var 12), (.var 16), (.lit 0), (.lit 0), (.lit 0), (.var 24), (.lit 0)]) .ok)))))))))))))))))))))))))))))))))))))))))))))))))) (.branch (.bin .eq e192 (.var 4)) (.havoc false (.havoc false (.havoc false (.havoc false (.assume p306 (.assume p307 (.assume p308 (.assume p87 (.assume p309 (.havoc false (.havoc false (.havoc false (.havoc false (.assume p312 (.assume p314 (.assume p315 (.assume p346 (.assume p347 (.havoc false (.havoc false (.havoc false (.havoc false (.assume p317 (.assume p318 (.assume p319 (.assume p320 (.assume p321 (.havoc false (.havoc false (.havoc false (.havoc false (.assume p322 (.assume p323 (.assume p324 (.assume p325 (.assume p326 (.branch e327 (.branch e328 (.assert (.pr 34 [(.var 0), (.lit 8), (.var 8), (.var 12), (.var 16), (.var 20), (.lit 0), (.lit 0), (.lit 0), e327]) .ok) (.assert (.pr 34 [(.var 0), (.lit 8), (.var 8), (.var 12), (.var 16), (.var 20), (.lit 0), (.lit 0), (.lit 0), (.lit 0)]) .ok)) (.havoc false (.havoc false (.havoc false (.havoc false (.assume p329 (.assume p330 (.assume p331 (.assume p332 (.assume p333 (.branch e334 (.havoc false (.havoc false (.havoc false (.havoc false (.assume p335 (.assume p336 (.assume p337 (.assume p338 (.assume p339 (.branch e340 (.assert (.pr 34 [(.var 0), (.lit 8), (.var 8), (.var 12), (.var 16), (.var 20), (.lit 0), (.lit 1), (.var 28), e341]) .ok) (.assert (.pr 34 [(.var 0), (.lit 8), (.var 8), (.var 12), (.var 16), (.var 20), (.lit 0), (.lit 1), (.var 28), (.lit 0)]) .ok))))))))))) (.branch e342 (.havoc false (.havoc false (.havoc false (.havoc false (.assume p335 (.assume p336 (.assume p337 (.assume p338 (.assume p339 (.branch e340 (.assert (.pr 34 [(.var 0), (.lit 8), (.var 8), (.var 12), (.var 16), (.var 20), (.lit 0), (.lit 2), (.var 28), e341]) .ok) (.assert (.pr 34 [(.var 0), (.lit 8), (.var 8), (.var 12), (.var 16), (.var 20), (.lit 0), (.lit 2), (.var 28), (.lit 0)]) .ok))))))))))) (.havoc false (.havoc false (.havoc false (.havoc false (.assume p335 (.assume p336 (.assume p337 (.assume p338 (.assume p343 (.branch e340 (.assert (.pr 34 [(.var 0), (.lit 8), (.var 8), (.var 12), (.var 16), (.var 20), (.lit 0), (.lit 0), (.var 28), e341]) .ok) (.assert (.pr 34 [(.var 0), (.lit 8), (.var 8), (.var 12), (.var 16), (.var 20), (.lit 0), (.lit 0), (.var 28), (.lit 0)]) .ok))))))))))))))))))))))))))))))))))))))))))))))))))))))))))) (.branch (.bin .eq e193 (.var 4)) (.havoc false (.havoc false (.havoc false (.havoc false (.assume p365 (.assume p306 (.assume p307 (.assume p308 (.assume p366 (.branch e89 (.branch e344 (.assert p107 (.assert (.pr 34 [(.var 0), (.lit 9), (.lit 0), (.lit 0), (.var 8), (.lit 0), (.lit 0), (.lit 0), (.lit 0), e89]) .ok)) (.assert p107 (.assert (.pr 34 [(.var 0), (.lit 9), (.lit 0), (.lit 0), (.var 8), (.lit 0), (.lit 0), (.lit 0), (.lit 0), (.lit 0)]) .ok))) (.havoc false (.havoc false (.havoc false (.havoc false (.assume p312 (.assume p314 (.assume p315 (.assume p346 (.assume p347 (.branch e348 (.havoc false (.havoc false (.havoc false (.havoc false (.assume p317 (.assume p318 (.assume p319 (.assume p320 (.assume p321 (.branch e349 (.assert p107 (.assert (.pr 34 [(.var 0), (.lit 9), (.lit 0), (.lit 0), (.var 8), (.lit 0), (.lit 0), (.lit 1), (.var 16), e350]) .ok)) (.assert p107 (.assert (.pr 34 [(.var 0), (.lit 9), (.lit 0), (.lit 0), (.var 8), (.lit 0), (.lit 0), (.lit 1), (.var 16), (.lit 0)]) .ok)))))))))))) (.branch e351 (.havoc false (.havoc false (.havoc false (.havoc false (.assume p317 (.assume p318 (.assume p319 (.assume p320 (.assume p321 (.branch e349 (.assert p107 (.assert (.pr 34 [(.var 0), (.lit 9), (.lit 0), (.lit 0), (.var 8), (.lit 0), (.lit 0), (.lit 2), (.var 16), e350]) .ok)) (.assert p107 (.assert (.pr 34 [(.var 0), (.lit 9), (.lit 0), (.lit 0), (.var 8), (.lit 0), (.lit 0), (.lit 2), (.var 16), (.lit 0)]) .ok)))))))))))) (.havoc false (.havoc false (.havoc false (.havoc false (.assume p317 (.assume p318 (.assume p319 (.assume p320 (.assume p352 (.branch e349 (.assert p107 (.assert (.pr 34 [(.var 0), (.lit 9), (.lit 0), (.lit 0), (.var 8), (.lit 0), (.lit 0), (.lit 0), (.var 16), e350]) .ok)) (.assert p107 (.assert (.pr 34 [(.var 0), (.lit 9), (.lit 0), (.lit 0), (.var 8), (.lit 0), (.lit 0), (.lit 0), (.var 16), (.lit 0)]) .ok))))))))))))))))))))))))))))))))) (.branch (.bin .eq e194 (.var 4)) (.branch e137 (.branch e138 (.assert p107 (.assert (.pr 34 [(.var 0), (.lit 10), (.lit 0), (.lit 0), (.lit 0), (.lit 0), (.lit 0), (.lit 0), (.lit 0), e137]) .ok)) (.assert p107 (.assert (.pr 34 [(.var 0), (.lit 10), (.lit 0), (.lit 0), (.lit 0), (.lit 0), (.lit 0), (.lit 0), (.lit 0), (.lit 0)]) .ok))) (.havoc false (.havoc false (.havoc false (.havoc false (.assume p306 (.assume p307 (.assume p308 (.assume p87 (.assume p309 (.branch (.bin .eq (.var 8) e205) (.havoc false (.havoc false (.havoc false (.havoc false (.assume p310 (.assume p312 (.assume p314 (.assume p315 (.assume p316 (.branch e354 (.assert p107 (.assert (.pr 34 [(.var 0), (.lit 10), (.lit 0), (.lit 0), (.lit 0), (.lit 0), (.lit 0), (.lit 1), (.var 12), e353]) .ok)) (.assert p107 (.assert (.pr 34 [(.var 0), (.lit 10), (.lit 0), (.lit 0), (.lit 0), (.lit 0), (.lit 0), (.lit 1), (.var 12), (.lit 0)]) .ok)))))))))))) (.branch (.bin .eq (.var 8) e209) (.havoc false (.havoc false (.havoc false (.havoc false (.assume p310 (.assume p312 (.assume p314 (.assume p315 (.assume p316 (.branch e354 (.assert p107 (.assert (.pr 34 [(.var 0), (.lit 10), (.lit 0), (.lit 0), (.lit 0), (.lit 0), (.lit 0), (.lit 2), (.var 12), e353]) .ok)) (.assert p107 (.assert (.pr 34 [(.var 0), (.lit 10), (.lit 0), (.lit 0), (.lit 0), (.lit 0), (.lit 0), (.lit 2), (.var 12), (.lit 0)]) .ok)))))))))))) (.havoc false (.havoc false (.havoc false (.havoc false (.assume p310 (.assume p312 (.assume p314 (.assume p315 (.assume (.pr 38 [(.var 1), (.var 9), (.var 10), (.lit 1), (.var 12), (.var 13), (.var 14), (.var 15)]) (.branch e354 (.assert p107 (.assert (.pr 34 [(.var 0), (.lit 10), (.lit 0), (.lit 0), (.lit 0), (.lit 0), (.lit 0), (.lit 0), (.var 12), e353]) .ok)) (.assert p107 (.assert (.pr 34 [(.var 0), (.lit 10), (.lit 0), (.lit 0), (.lit 0), (.lit 0), (.lit 0), (.lit 0), (.var 12), (.lit 0)]) .ok)))))))))))))))))))))))) (.branch (.bin .eq e195 (.var 4)) (.havoc false (.havoc false (.havoc false (.havoc false (.assume p365 (.assume p306 (.assume p307 (.assume p308 (.assume p366 (.branch e89 (.branch e344 (.assert p107 (.assert (.pr 34 [(.var 0), (.lit 11), (.lit 0), (.lit 0), (.var 8), (.lit 0), (.lit 0), (.lit 0), (.lit 0), e89]) .ok)) (.assert p107 (.assert (.pr 34 [(.var 0), (.lit 11), (.lit 0), (.lit 0), (.var 8), (.lit 0), (.lit 0), (.lit 0), (.lit 0), (.lit 0)]) .ok))) (.havoc false (.havoc false (.havoc false (.havoc false (.assume p312 (.assume p314 (.assume p315 (.assume p346 (.assume p347 (.branch e348 (.havoc false (.havoc false (.havoc false (.havoc false (.assume p317 (.assume p318 (.assume p319 (.assume p320 (.assume p321 (.branch e349 (.assert p107 (.assert (.pr 34 [(.var 0), (.lit 11), (.lit 0), (.lit 0), (.var 8), (.lit 0), (.lit 0), (.lit 1), (.var 16), e350]) .ok)) (.assert p107 (.assert (.pr 34 [(.var 0), (.lit 11), (.lit 0), (.lit 0), (.var 8), (.lit 0), (.lit 0), (.lit 1), (.var 16), (.lit 0)]) .ok)))))))))))) (.branch e351 (.havoc false (.havoc false (.havoc false (.havoc false (.assume p317 (.assume p318 (.assume p319 (.assume p320 (.assume p321 (.branch e349 (.assert p107 (.assert (.pr 34 [(.var 0), (.lit 11), (.lit 0), (.lit 0), (.var 8), (.lit 0), (.lit 0), (.lit 2), (.var 16), e350]) .ok)) (.assert p107 (.assert (.pr 34 [(.var 0), (.lit 11), (.lit 0), (.lit 0), (.var 8), (.lit 0), (.lit 0), (.lit 2), (.var 16), (.lit 0)]) .ok)))))))))))) (.havoc false (.havoc false (.havoc false (.havoc false (.assume p317 (.assume p318 (.assume p319 (.assume p320 (.assume p352 (.branch e349 (.assert p107 (.assert (.pr 34 [(.var 0), (.lit 11), (.lit 0), (.lit 0), (.var 8), (.lit 0), (.lit 0), (.lit 0), (.var 16), e350]) .ok)) (.assert p107 (.assert (.pr 34 [(.var 0), (.lit 11), (.lit 0), (.lit 0), (.var 8), (.lit 0), (.lit 0), (.lit 0), (.var 16), (.lit 0)]) .ok))))))))))))))))))))))))))))))))) (.branch (.bin .eq e196 (.var 4)) (.havoc false (.havoc false (.havoc false (.havoc false (.assume p365 (.assume p306 (.assume p307 (.assume p308 (.assume p366 (.havoc false (.havoc false (.havoc false (.havoc false (.assume p310 (.assume p312 (.assume p314 (.assume p315 (.assume p316 (.havoc false (.havoc false (.havoc false (.havoc false (.assume p317 (.assume p318 (.assume p319 (.assume p320 (.assume p321 (.branch e350 (.branch e349 (.assert p107 (.assert (.pr 34 [(.var 0), (.lit 12), (.lit 0), (.lit 0), (.var 8), (.var 12), (.var 16), (.lit 0), (.lit 0), e350]) .ok)) (.assert p107 (.assert (.pr 34 [(.var 0), (.lit 12), (.lit 0), (.lit 0), (.var 8), (.var 12), (.var 16), (.lit 0), (.lit 0), (.lit 0)]) .ok))) (.havoc false (.havoc false (.havoc false (.havoc false (.assume p323 (.assume p324 (.assume p325 (.assume p358 (.assume p359 (.branch (.bin .eq (.var 20) e205) (.havoc false (.havoc false (.havoc false (.havoc false (.assume p360 (.assume p329 (.assume p330 (.assume p331 (.assume p361 (.branch e362 (.assert p107 (.assert (.pr 34 [(.var 0), (.lit 12), (.lit 0), (.lit 0), (.var 8), (.var 12), (.var 16), (.lit 1), (.var 24), e363]) .ok)) (.assert p107 (.assert (.pr 34 [(.var 0), (.lit 12), (.lit 0), (.lit 0), (.var 8), (.var 12), (.var 16), (.lit 1), (.var 24), (.lit 0)]) .ok)))))))))))) (.branch (.bin .eq (.var 20) e209) (.havoc false (.havoc false (.havoc false (.havoc false (.assume p360 (.assume p329 (.assume p330 (.assume p331 (.assume p361 (.branch e362 (.assert p107 (.assert (.pr 34 [(.var 0), (.lit 12), (.lit 0), (.lit 0), (.var 8), (.var 12), (.var 16), (.lit 2), (.var 24), e363]) .ok)) (.assert p107 (.assert (.pr 34 [(.var 0), (.lit 12), (.lit 0), (.lit 0), (.var 8), (.var 12), (.var 16), (.lit 2), (.var 24), (.lit 0)]) .ok)))))))))))) (.havoc false (.havoc false (.havoc false (.havoc false (.assume p360 (.assume p329 (.assume p330 (.assume p331 (.assume p364 (.branch e362 (.assert p107 (.assert (.pr 34 [(.var 0), (.lit 12), (.lit 0), (.lit 0), (.var 8), (.var 12), (.var 16), (.lit 0), (.var 24), e363]) .ok)) (.assert p107 (.assert (.pr 34 [(.var 0), (.lit 12), (.lit 0), (.lit 0), (.var 8), (.var 12), (.var 16), (.lit 0), (.var 24), (.lit 0)]) .ok))))))))))))))))))))))))))))))))))))))))))))))))))) (.branch (.bin .eq e197 (.var 4)) (.havoc false (.havoc false (.havoc false (.havoc false (.assume p306 (.assume p307 (.assume p308 (.assume p87 (.assume p309 (.branch e89 (.branch e344 (.assert p107 (.assert (.pr 34 [(.var 0), (.lit 13), (.var 8), (.lit 0), (.lit 0), (.lit 0), (.lit 0), (.lit 0), (.lit 0), e89]) .ok)) (.assert p107 (.assert (.pr 34 [(.var 0), (.lit 13), (.var 8), (.lit 0), (.lit 0), (.lit 0), (.lit 0), (.lit 0), (.lit 0), (.lit 0)]) .ok))) (.havoc false (.havoc false (.havoc false (.havoc false (.assume p312 (.assume p314 (.assume p315 (.assume p346 (.assume p347 (.branch e348 (.havoc false (.havoc false (.havoc false (.havoc false (.assume p317 (.assume p318 (.assume p319 (.assume p320 (.assume p321 (.branch e349 (.assert p107 (.assert (.pr 34 [(.var 0), (.lit 13), (.var 8), (.lit 0), (.lit 0), (.lit 0), (.lit 0), (.lit 1), (.var 16), e350]) .ok)) (.assert p107 (.assert (.pr 34 [(.var 0), (.lit 13), (.var 8), (.lit 0), (.lit 0), (.lit 0), (.lit 0), (.lit 1), (.var 16), (.lit 0)]) .ok)))))))))))) (.branch e351 (.havoc false (.havoc false (.havoc false (.havoc false (.assume p317 (.assume p318 (.assume p319 (.assume p320 (.assume p321 (.branch e349 (.assert p107 (.assert (.pr 34 [(.var 0), (.lit 13), (.var 8), (.lit 0), (.lit 0), (.lit 0), (.lit 0), (.lit 2), (.var 16), e350]) .ok)) (.assert p107 (.assert (.pr 34 [(.var 0), (.lit 13), (.var 8), (.lit 0), (.lit 0), (.lit 0), (.lit 0), (.lit 2), (.var 16), (.lit 0)]) .ok)))))))))))) (.havoc false (.havoc false (.havoc false (.havoc false (.assume p317 (.assume p318 (.assume p319 (.assume p320 (.assume p352 (.branch e349 (.assert p107 (.assert (.pr 34 [(.var 0), (.lit 13), (.var 8), (.lit 0), (.lit 0), (.lit 0), (.lit 0), (.lit 0), (.var 16), e350]) .ok)) (.assert p107 (.assert (.pr 34 [(.var 0), (.lit 13), (.var 8), (.lit 0), (.lit 0), (.lit 0), (.lit 0), (.lit 0), (.var 16), (.lit 0)]) .ok))))))))))))))))))))))))))))))))) (.assert p107 (.assert (.pr 34 [(.var 0), e72, (.lit 0), (.lit 0), (.lit 0), (.lit 0), (.lit 0), (.lit 0), (.lit 0), (.lit 0)]) .ok)))))))))))))))
def e368 : E := (.bin .eq e94 (.lit 0))
def p369 : PE := (.rng .i64 (.var 1))
def e370 : E := (.bin .sub (.lit 0) (.var 0))
def e371 : E := (.fn 3 e370 (.lit 0) (.lit 0) (.lit 0))
def e372 : E := (.fn 3 (.var 0) (.lit 0) (.lit 0) (.lit 0))
def e373 : E := (.bin (.bits 6 .i64) (.var 0) (.lit 10))
def e374 : E := (.fn 3 e373 (.lit 0) (.lit 0) (.lit 0))
def e375 : E := (.bin .tmod (.var 0) (.lit 10))
def e376 : E := (.bin .sub (.lit 0) e375)
def e377 : E := (.fn 3 e376 (.lit 0) (.lit 0) (.lit 0))
def e378 : E := (.fn 1001 e374 (.lit 0) (.lit 0) (.lit 0))
def e379 : E := (.upd .zt (.lit 0) 0 (.wrap .u8 (.bin .add (.lit 48) (.var 0))))
def e380 : E := (.fn 3 e375 (.lit 0) (.lit 0) (.lit 0))
def p381 : PE := (.tt (.bin .le (.lit 1) (.var 1)))
def q382 : Tree := (.assert (.pr 11 [(.var 0), (.lit 0)]) .ok)
def q383 : Tree := (.assert (.pr 11 [(.var 0), (.bin .ne (.var 0) (.lit 6295))]) .ok)
def q384 : Tree := (.branch e25 (.branch e26 q382 (.assert p28 (.assert p29 (.assert p30 q31)))) q382)
def q385 : Tree := (.branch (.bin .eq e49 (.lit 48)) (.branch (.bin .lt (.lit 1) e0) q382 q383) q383)
def e386 : E := (.fn 12 (.var 0) (.var 2) (.lit 0) (.lit 0))
def e387 : E := (.wrap .i64 (.wrap .u8 (.bin .sub e37 (.lit 48))))
def e388 : E := (.wrap .i64 e39)
def p389 : PE := (.tt (.bin .le (.lit 0) e388))
def p390 : PE := (.tt (.bin .le e388 e0))
def e391 : E := (.wrap .i64 (.bin .mul (.lit 10) e386))
def e392 : E := (.fn 12 (.var 0) e388 (.lit 0) (.lit 0))
def q393 : Tree := (.assert (.tt (.bin .le (.lit 0) (.bin .sub e0 e388))) (.assert (.tt (.bin .lt (.bin .sub e0 e388) e43)) .ok))
def q394 : Tree := (.assert p389 (.assert p390 (.assert (.same e386 e392) q393)))
def e395 : E := (.fn 3 e386 (.lit 0) (.lit 0) (.lit 0))
def e396 : E := (.bin .eq e20 (.lit 34))
def p397 : PE := (.tt (.bin .le (.var 1) (.var 2)))
def p398 : PE := (.pr 13 [(.var 0), (.var 1), (.var 2)])
def q399 : Tree := (.assert (.tt (.bin .le (.var 1) e39)) (.assert p42 (.assert (.pr 12 [(.var 0), (.var 1), e39]) .ok)))
def e400 : E := (.bin .add (.var 2) (.lit 2))
def q401 : Tree := (.assert p40 (.assert (.tt (.bin .le (.var 1) e39)) (.assert p42 (.assert (.pr 13 [(.var 0), (.var 1), e39]) q44))))
def q402 : Tree := (.assert (.tt (.bin .le e0 e0)) (.assert (.pr 12 [(.var 0), (.var 1), e0]) .ok))
def q403 : Tree := (.assert (.pr 14 [(.var 0), (.lit 0)]) .ok)
def q404 : Tree := (.assert p107 .ok)
def e405 : E := (.fn 1003 (.var 0) (.var 1) e27 (.lit 0))
def e406 : E := (.bin .add (.var 1) (.lit 2))
def e407 : E := (.fn 1001 (.fn 1002 (.var 2) e405 (.lit 0) (.lit 0)) (.lit 0) (.lit 0) (.lit 0))
def e408 : E := (.fn 1004 (.var 1) (.var 2) (.lit 0) (.lit 0))
def e409 : E := (.fn 1003 (.var 0) (.var 1) (.var 4) (.lit 0))
def p410 : PE := (.tt (.bin .le (.fn 1001 e409 (.lit 0) (.lit 0) (.lit 0)) e1))
def e411 : E := (.bin .eq e137 (.lit 0))
def e412 : E := (.bin .eq (.bin .eq (.fn 1004 (.var 0) (.var 4) (.lit 0) (.lit 0)) (.lit 32)) (.lit 0))
def p413 : PE := (.tt (.bin .le e9 e11))
def e414 : E := (.upd (.upd (.var 2) (.var 3) 0 (.lit 1)) (.var 3) 1 (.var 5))
def q415 : Tree := (.assert (.tt (.bin .le (.lit 0) (.bin .sub e73 e90))) (.assert (.tt (.bin .lt (.bin .sub e73 e90) (.bin .sub e73 (.var 1)))) .ok))
def q416 : Tree := (.assert p92 (.assert (.tt (.bin .le e90 e73)) (.assert p10 (.assert (.tt (.bin .le e9 e90)) (.assert (.pr 22 [e414, e9]) (.assert (.pr 17 [(.var 0), e90, e414, e9]) q415))))))
def e417 : E := (.bin .eq (.var 5) (.lit 0))
def e418 : E := (.upd (.upd (.var 2) (.var 3) 0 (.lit 0)) (.var 3) 1 e409)
def q419 : Tree := (.assert p92 (.assert (.tt (.bin .le e90 e73)) (.assert p10 (.assert (.tt (.bin .le e9 e90)) (.assert (.pr 22 [e418, e9]) (.assert (.pr 17 [(.var 0), e90, e418, e9]) q415))))))
def q420 : Tree := (.branch e25 (.branch e26 (.branch e24 q23 q32) q32) (.branch e24 q23 q32))
def q421 : Tree := (.branch (.bin .le (.lit 65) e20) (.branch (.bin .eq (.bin .le e20 (.lit 90)) (.lit 0)) q420 q32) q420)
def q422 : Tree := (.assert p16 (.assert (.pr 40 [(.var 0), (.lit 0)]) (.havoc false (.assume (.tt e17) (.assume p18 (.assume (.pr 40 [(.var 0), (.var 1)]) (.branch e19 (.branch (.bin .le (.lit 97) e20) (.branch (.bin .le e20 (.lit 122)) q32 q421) q421) (.assert (.same (.lit 1) e22) .ok))))))))
def q423 : Tree := (.branch (.bin .le (.lit 65) e49) (.branch (.bin .eq (.bin .le e49 (.lit 90)) (.lit 0)) q23 q422) q23)
def e424 : E := (.bin .eq (.sel (.var 9) (.var 0) 2) (.lit 23))
def e425 : E := (.sel (.var 9) (.var 0) 3)
def e426 : E := (.bin .lt e425 (.lit 1))
def e427 : E := (.bin .lt e425 (.lit 2))
def e428 : E := (.bin .eq (.bin .eq (.var 4) (.lit 0)) (.lit 0))
def e429 : E := (.bin .lt e425 (.lit 3))
def e430 : E := (.bin .eq e417 (.lit 0))
def q431 : Tree := (.branch (.bin .le e125 (.var 3)) (.branch (.bin .eq (.bin .le (.var 3) e127) (.lit 0)) q158 (.branch (.bin .le e125 (.var 4)) (.branch (.bin .eq (.bin .le (.var 4) e127) (.lit 0)) q158 (.branch (.bin .le e125 (.var 5)) (.branch (.bin .eq (.bin .le (.var 5) e127) (.lit 0)) q158 (.branch e159 (.branch (.bin .le e125 (.var 7)) (.branch (.bin .eq (.bin .le (.var 7) e127) (.lit 0)) q158 q162) q158) q162)) q158)) q158)) q158)
def q432 : Tree := (.branch e429 (.branch e430 q136 q431) q431)
def q433 : Tree := (.branch e427 (.branch e428 q136 q432) q432)
def q434 : Tree := (.havoc false (.assume (.same (.var 10) e147) (.branch e148 q165 q431)))
def q435 : Tree := (.branch e429 (.branch e430 q136 q434) q434)
def q436 : Tree := (.branch e427 (.branch e428 q136 q435) q435)
def q437 : Tree := (.havoc false (.assume (.same (.var 10) e168) (.branch e169 q165 q431)))
def q438 : Tree := (.branch e429 (.branch e430 q136 q437) q437)
def q439 : Tree := (.branch e427 (.branch e428 q136 q438) q438)
def q440 : Tree := (.havoc false (.assume (.same (.var 10) e168) (.branch e169 q165 (.havoc false (.assume (.same (.var 11) e147) (.branch e148 q165 q431))))))
def q441 : Tree := (.branch e429 (.branch e430 q136 q440) q440)
def q442 : Tree := (.branch e427 (.branch e428 q136 q441) q441)
def q443 : Tree := (.havoc true (.assume (.pr 80 [(.var 9)]) (.assert (.tt e140) (.branch (.bin .eq (.sel (.var 9) (.var 0) 1) (.lit 23)) (.branch e67 q136 (.branch e424 (.branch e146 q136 (.branch e426 (.branch e71 q136 q433) q433)) (.branch e426 (.branch e71 q136 q436) q436))) (.branch e424 (.branch e146 q136 (.branch e426 (.branch e71 q136 q439) q439)) (.branch e426 (.branch e71 q136 q442) q442))))))
def p444 : PE := (.tt (.bin .le (.var 4) (.var 2)))
def p445 : PE := (.pr 23 [.zt, (.lit 0)])
def e446 : E := (.bin .add (.var 6) (.lit 1))
def q447 : Tree := (.assert (.tt (.bin .le (.lit 0) (.bin .sub (.var 2) e90))) (.assert (.tt (.bin .lt (.bin .sub (.var 2) e90) (.bin .sub (.var 2) (.var 4)))) .ok))
def p448 : PE := (.pr 23 [(.var 1), (.var 2)])
def p449 : PE := (.pr 55 [(.var 0), (.var 1), (.var 2), (.var 3)])
def e450 : E := (.sel (.var 1) (.lit 0) 0)
def q451 : Tree := (.assert (.tt (.bin .le (.lit 0) (.bin .sub (.lit 14) e99))) (.assert (.tt (.bin .lt (.bin .sub (.lit 14) e99) (.bin .sub (.lit 14) (.var 5)))) .ok))
def q452 : Tree := (.assert p134 (.assert p107 (.assert (.pr 34 [(.var 0), (.var 6), (.lit 0), (.lit 0), (.lit 0), (.lit 0), (.lit 0), (.lit 0), (.lit 0), (.lit 0)]) .ok)))
def e453 : E := (.sel (.var 4) (.var 6) 3)
def e454 : E := (.bin .add e453 (.lit 1))
def p455 : PE := (.rng .i64 e454)
def e456 : E := (.bin .ne (.sel (.var 4) (.var 6) 2) (.lit 23))
def e457 : E := (.bin .add e453 (.lit 2))
def p458 : PE := (.rng .i64 e457)
def e459 : E := (.bin .eq (.bin .eq e112 e457) (.lit 0))
def p460 : PE := (.rng .i64 (.bin .add e453 (.lit 4)))
def e461 : E := (.bin .eq e112 (.bin .add e453 (.lit 4)))
def p462 : PE := (.tt (.bin .le (.lit 0) e457))
def p463 : PE := (.tt (.bin .lt e457 e112))
def e464 : E := (.bin .add (.lit 1) e457)
def p465 : PE := (.tt (.bin .le (.lit 0) e464))
def p466 : PE := (.tt (.bin .lt e464 (.var 2)))
def e467 : E := (.sel (.var 1) e464 0)
def e468 : E := (.bin .add e453 (.lit 3))
def p469 : PE := (.rng .i64 e468)
def e470 : E := (.bin .add (.lit 1) e468)
def p471 : PE := (.tt (.bin .le (.fn 1001 (.sel (.var 1) e470 0) (.lit 0) (.lit 0) (.lit 0)) e1))
def p472 : PE := (.pr 10 [(.sel (.var 1) e470 0), (.var 7), (.var 8)])
def q473 : Tree := (.assert p134 (.assert p107 (.assert (.pr 34 [(.var 0), (.var 6), (.lit 0), (.lit 0), (.lit 0), (.lit 0), (.lit 0), (.lit 1), (.var 7), (.lit 0)]) .ok)))
def p474 : PE := (.tt (.bin .lt (.lit 1) (.var 2)))
def p475 : PE := (.tt (.bin .lt (.lit 0) e454))
def p476 : PE := (.tt (.bin .lt (.lit 2) (.var 2)))
def p477 : PE := (.tt (.bin .le (.lit 1) e454))
def p478 : PE := (.tt (.bin .le e454 e454))
def p479 : PE := (.tt (.bin .le (.lit 0) e453))
def p480 : PE := (.tt (.bin .le e453 (.lit 3)))
def p481 : PE := (.pr 58 [(.var 1), (.lit 3), (.lit 0), (.lit 0), (.lit 0), (.lit 0)])
def p482 : PE := (.tt (.bin .le e453 e453))
def p483 : PE := (.tt (.bin .le (.var 9) (.var 13)))
def p484 : PE := (.tt (.bin .le (.var 13) (.lit 3)))
def p485 : PE := (.pr 58 [(.var 1), (.lit 3), (.var 9), (.var 10), (.var 11), (.var 12)])
def p486 : PE := (.tt (.bin .le (.var 13) e453))
def p487 : PE := (.tt (.bin .le e453 (.var 13)))
def p488 : PE := (.rng .i64 (.var 10))
def p489 : PE := (.rng .i64 (.var 11))
def e490 : E := (.bin .lt (.var 9) (.var 13))
def e491 : E := (.bin .add (.lit 3) (.var 9))
def p492 : PE := (.tt (.bin .le (.fn 1001 (.sel (.var 1) e491 0) (.lit 0) (.lit 0) (.lit 0)) e1))
def p493 : PE := (.rng .i64 (.var 14))
def p494 : PE := (.pr 10 [(.sel (.var 1) e491 0), (.var 14), (.var 15)])
def e495 : E := (.bin .eq (.var 9) (.lit 2))
def e496 : E := (.bin .eq e354 (.lit 0))
def e497 : E := (.sel (.var 1) (.lit 1) 0)
def p498 : PE := (.tt (.bin .le (.fn 1001 e497 (.lit 0) (.lit 0) (.lit 0)) e1))
def e499 : E := (.sel (.var 1) (.lit 2) 0)
def p500 : PE := (.tt (.bin .le (.fn 1001 e499 (.lit 0) (.lit 0) (.lit 0)) e1))
def q501 : Tree := (.assert p134 (.assert p498 (.assert p500 (.assert (.pr 34 [(.var 0), (.var 6), e497, e499, (.lit 0), (.lit 0), (.lit 0), (.lit 1), (.var 7), (.lit 0)]) .ok))))
def e502 : E := (.bin .add (.var 9) (.lit 1))
def p503 : PE := (.rng .i64 e502)
def p504 : PE := (.tt (.bin .le (.lit 0) e502))
def p505 : PE := (.tt (.bin .le e502 (.var 13)))
def q506 : Tree := (.assert (.tt (.bin .le (.lit 0) (.bin .sub (.var 13) e502))) (.assert (.tt (.bin .lt (.bin .sub (.var 13) e502) (.bin .sub (.var 13) (.var 9)))) .ok))
def q507 : Tree := (.assert p503 (.assert p504 (.assert p505 (.assert (.pr 58 [(.var 1), (.lit 3), e502, (.var 10), (.var 11), (.var 14)]) q506))))
def e508 : E := (.bin .eq (.var 9) (.lit 1))
def q509 : Tree := (.assert p503 (.assert p504 (.assert p505 (.assert (.pr 58 [(.var 1), (.lit 3), e502, (.var 10), (.var 14), (.var 12)]) q506))))
def q510 : Tree := (.assert p503 (.assert p504 (.assert p505 (.assert (.pr 58 [(.var 1), (.lit 3), e502, (.var 14), (.var 11), (.var 12)]) q506))))
def q511 : Tree := (.fail 29)
def q512 : Tree := (.assert p134 (.assert p107 (.assert (.pr 34 [(.var 0), (.var 6), (.lit 0), (.lit 0), (.lit 0), (.lit 0), (.lit 0), (.lit 2), (.var 7), (.lit 0)]) .ok)))
def q513 : Tree := (.assert p134 (.assert p498 (.assert p500 (.assert (.pr 34 [(.var 0), (.var 6), e497, e499, (.lit 0), (.lit 0), (.lit 0), (.lit 2), (.var 7), (.lit 0)]) .ok))))
def q514 : Tree := (.assert p462 (.assert p463 (.assert p465 (.assert p466 (.branch (.bin .eq e467 e205) (.assert p469 (.assert (.tt (.bin .le (.lit 0) e468)) (.assert (.tt (.bin .lt e468 e112)) (.assert (.tt (.bin .le (.lit 0) e470)) (.assert (.tt (.bin .lt e470 (.var 2))) (.assert p471 (.havoc false (.havoc false (.assume p135 (.assume p472 (.branch e368 q473 (.assert (.tt (.bin .le e457 e112)) (.assert (.tt (.bin .lt (.lit 0) e457)) (.assert p474 (.assert (.tt (.bin .le (.lit 1) e457)) (.assert (.tt (.bin .le e457 e457)) (.assert p475 (.assert p476 (.assert p477 (.assert p478 (.assert p479 (.assert p480 (.assert p481 (.assert p482 (.havoc false (.havoc false (.havoc false (.havoc false (.havoc false (.assume p306 (.assume p483 (.assume p484 (.assume p485 (.assume p486 (.assume p487 (.assume p488 (.assume p489 (.assume p310 (.branch e490 (.assert (.tt (.bin .le (.lit 0) e491)) (.assert (.tt (.bin .lt e491 (.var 2))) (.assert p492 (.havoc false (.havoc false (.assume p493 (.assume p494 (.branch e495 (.branch e496 q501 q507) (.branch e508 (.branch e496 q501 q509) (.branch e85 (.branch e496 q501 q510) q511)))))))))) (.assert p134 (.assert p498 (.assert p500 (.assert (.pr 34 [(.var 0), (.var 6), e497, e499, (.var 10), (.var 11), (.var 12), (.lit 1), (.var 7), (.lit 1)]) .ok))))))))))))))))))))))))))))))))))))))))))) (.branch (.bin .eq e467 e209) (.assert p469 (.assert (.tt (.bin .le (.lit 0) e468)) (.assert (.tt (.bin .lt e468 e112)) (.assert (.tt (.bin .le (.lit 0) e470)) (.assert (.tt (.bin .lt e470 (.var 2))) (.assert p471 (.havoc false (.havoc false (.assume p135 (.assume p472 (.branch e368 q512 (.assert (.tt (.bin .le e457 e112)) (.assert (.tt (.bin .lt (.lit 0) e457)) (.assert p474 (.assert (.tt (.bin .le (.lit 1) e457)) (.assert (.tt (.bin .le e457 e457)) (.assert p475 (.assert p476 (.assert p477 (.assert p478 (.assert p479 (.assert p480 (.assert p481 (.assert p482 (.havoc false (.havoc false (.havoc false (.havoc false (.havoc false (.assume p306 (.assume p483 (.assume p484 (.assume p485 (.assume p486 (.assume p487 (.assume p488 (.assume p489 (.assume p310 (.branch e490 (.assert (.tt (.bin .le (.lit 0) e491)) (.assert (.tt (.bin .lt e491 (.var 2))) (.assert p492 (.havoc false (.havoc false (.assume p493 (.assume p494 (.branch e495 (.branch e496 q513 q507) (.branch e508 (.branch e496 q513 q509) (.branch e85 (.branch e496 q513 q510) q511)))))))))) (.assert p134 (.assert p498 (.assert p500 (.assert (.pr 34 [(.var 0), (.var 6), e497, e499, (.var 10), (.var 11), (.var 12), (.lit 2), (.var 7), (.lit 1)]) .ok))))))))))))))))))))))))))))))))))))))))))) q452))))))
def p515 : PE := (.tt (.bin .lt (.lit 0) e112))
def p516 : PE := (.tt (.bin .le (.lit 1) e112))
def p517 : PE := (.tt (.bin .le e112 e112))
def e518 : E := (.bin .sub e112 (.lit 1))
def e519 : E := (.bin .sub e518 (.lit 1))
def p520 : PE := (.tt (.bin .le (.var 7) (.var 11)))
def p521 : PE := (.tt (.bin .le (.var 11) (.lit 3)))
def p522 : PE := (.tt (.bin .le (.var 11) e453))
def p523 : PE := (.tt (.bin .le e453 (.var 11)))
def e524 : E := (.bin .lt (.var 7) (.var 11))
def e525 : E := (.bin .add (.lit 3) (.var 7))
def e526 : E := (.bin .eq (.var 7) (.lit 2))
def e527 : E := (.bin .eq (.var 13) (.lit 0))
def e528 : E := (.bin .eq e527 (.lit 0))
def q529 : Tree := (.assert p134 (.assert p498 (.assert p500 (.assert (.pr 34 [(.var 0), (.var 6), e497, e499, (.lit 0), (.lit 0), (.lit 0), (.lit 0), (.lit 0), (.lit 0)]) .ok))))
def e530 : E := (.bin .add (.var 7) (.lit 1))
def p531 : PE := (.rng .i64 e530)
def p532 : PE := (.tt (.bin .le (.lit 0) e530))
def p533 : PE := (.tt (.bin .le e530 (.var 11)))
def q534 : Tree := (.assert (.tt (.bin .le (.lit 0) (.bin .sub (.var 11) e530))) (.assert (.tt (.bin .lt (.bin .sub (.var 11) e530) (.bin .sub (.var 11) (.var 7)))) .ok))
def e535 : E := (.bin .eq (.var 7) (.lit 1))
def e536 : E := (.bin .eq (.bin .eq e112 e454) (.lit 0))
def e537 : E := (.bin .eq e112 e468)
def p538 : PE := (.tt (.bin .le (.lit 0) e454))
def p539 : PE := (.tt (.bin .lt e454 e112))
def e540 : E := (.bin .add (.lit 1) e454)
def p541 : PE := (.tt (.bin .le (.lit 0) e540))
def p542 : PE := (.tt (.bin .lt e540 (.var 2)))
def e543 : E := (.sel (.var 1) e540 0)
def p544 : PE := (.tt (.bin .le (.fn 1001 e467 (.lit 0) (.lit 0) (.lit 0)) e1))
def p545 : PE := (.pr 10 [e467, (.var 7), (.var 8)])
def p546 : PE := (.tt (.bin .le e454 e112))
def p547 : PE := (.pr 58 [(.var 1), (.lit 2), (.lit 0), (.lit 0), (.lit 0), (.lit 0)])
def p548 : PE := (.pr 58 [(.var 1), (.lit 2), (.var 9), (.var 10), (.var 11), (.var 12)])
def e549 : E := (.bin .add (.lit 2) (.var 9))
def p550 : PE := (.tt (.bin .le (.lit 0) e549))
def p551 : PE := (.tt (.bin .lt e549 (.var 2)))
def p552 : PE := (.tt (.bin .le (.fn 1001 (.sel (.var 1) e549 0) (.lit 0) (.lit 0) (.lit 0)) e1))
def p553 : PE := (.pr 10 [(.sel (.var 1) e549 0), (.var 14), (.var 15)])
def q554 : Tree := (.assert p134 (.assert p498 (.assert p107 (.assert (.pr 34 [(.var 0), (.var 6), e497, (.lit 0), (.lit 0), (.lit 0), (.lit 0), (.lit 1), (.var 7), (.lit 0)]) .ok))))
def q555 : Tree := (.assert p503 (.assert p504 (.assert p505 (.assert (.pr 58 [(.var 1), (.lit 2), e502, (.var 10), (.var 11), (.var 14)]) q506))))
def q556 : Tree := (.assert p503 (.assert p504 (.assert p505 (.assert (.pr 58 [(.var 1), (.lit 2), e502, (.var 10), (.var 14), (.var 12)]) q506))))
def q557 : Tree := (.assert p503 (.assert p504 (.assert p505 (.assert (.pr 58 [(.var 1), (.lit 2), e502, (.var 14), (.var 11), (.var 12)]) q506))))
def q558 : Tree := (.assert p134 (.assert p498 (.assert p107 (.assert (.pr 34 [(.var 0), (.var 6), e497, (.lit 0), (.lit 0), (.lit 0), (.lit 0), (.lit 2), (.var 7), (.lit 0)]) .ok))))
def q559 : Tree := (.assert p538 (.assert p539 (.assert p541 (.assert p542 (.branch (.bin .eq e543 e205) (.assert p458 (.assert p462 (.assert p463 (.assert p465 (.assert p466 (.assert p544 (.havoc false (.havoc false (.assume p135 (.assume p545 (.branch e368 q473 (.assert p546 (.assert p475 (.assert p474 (.assert p477 (.assert p478 (.assert p479 (.assert p480 (.assert p547 (.assert p482 (.havoc false (.havoc false (.havoc false (.havoc false (.havoc false (.assume p306 (.assume p483 (.assume p484 (.assume p548 (.assume p486 (.assume p487 (.assume p488 (.assume p489 (.assume p310 (.branch e490 (.assert p550 (.assert p551 (.assert p552 (.havoc false (.havoc false (.assume p493 (.assume p553 (.branch e495 (.branch e496 q554 q555) (.branch e508 (.branch e496 q554 q556) (.branch e85 (.branch e496 q554 q557) q511)))))))))) (.assert p134 (.assert p498 (.assert p107 (.assert (.pr 34 [(.var 0), (.var 6), e497, (.lit 0), (.var 10), (.var 11), (.var 12), (.lit 1), (.var 7), (.lit 1)]) .ok))))))))))))))))))))))))))))))))))))))) (.branch (.bin .eq e543 e209) (.assert p458 (.assert p462 (.assert p463 (.assert p465 (.assert p466 (.assert p544 (.havoc false (.havoc false (.assume p135 (.assume p545 (.branch e368 q512 (.assert p546 (.assert p475 (.assert p474 (.assert p477 (.assert p478 (.assert p479 (.assert p480 (.assert p547 (.assert p482 (.havoc false (.havoc false (.havoc false (.havoc false (.havoc false (.assume p306 (.assume p483 (.assume p484 (.assume p548 (.assume p486 (.assume p487 (.assume p488 (.assume p489 (.assume p310 (.branch e490 (.assert p550 (.assert p551 (.assert p552 (.havoc false (.havoc false (.assume p493 (.assume p553 (.branch e495 (.branch e496 q558 q555) (.branch e508 (.branch e496 q558 q556) (.branch e85 (.branch e496 q558 q557) q511)))))))))) (.assert p134 (.assert p498 (.assert p107 (.assert (.pr 34 [(.var 0), (.var 6), e497, (.lit 0), (.var 10), (.var 11), (.var 12), (.lit 2), (.var 7), (.lit 1)]) .ok))))))))))))))))))))))))))))))))))))))) q452))))))
def p560 : PE := (.pr 58 [(.var 1), (.lit 2), (.var 7), (.var 8), (.var 9), (.var 10)])
def e561 : E := (.bin .add (.lit 2) (.var 7))
def p562 : PE := (.tt (.bin .le (.fn 1001 (.sel (.var 1) e561 0) (.lit 0) (.lit 0) (.lit 0)) e1))
def p563 : PE := (.pr 10 [(.sel (.var 1) e561 0), (.var 12), (.var 13)])
def q564 : Tree := (.assert p134 (.assert p498 (.assert p107 (.assert (.pr 34 [(.var 0), (.var 6), e497, (.lit 0), (.lit 0), (.lit 0), (.lit 0), (.lit 0), (.lit 0), (.lit 0)]) .ok))))
def q565 : Tree := (.assert p531 (.assert p532 (.assert p533 (.assert (.pr 58 [(.var 1), (.lit 2), e530, (.var 8), (.var 9), (.var 12)]) q534))))
def q566 : Tree := (.assert p531 (.assert p532 (.assert p533 (.assert (.pr 58 [(.var 1), (.lit 2), e530, (.var 8), (.var 12), (.var 10)]) q534))))
def q567 : Tree := (.assert p531 (.assert p532 (.assert p533 (.assert (.pr 58 [(.var 1), (.lit 2), e530, (.var 12), (.var 9), (.var 10)]) q534))))
def q568 : Tree := (.assert p134 (.assert p107 (.assert p498 (.assert (.pr 34 [(.var 0), (.var 6), (.lit 0), e497, (.lit 0), (.lit 0), (.lit 0), (.lit 1), (.var 7), (.lit 0)]) .ok))))
def q569 : Tree := (.assert p134 (.assert p107 (.assert p498 (.assert (.pr 34 [(.var 0), (.var 6), (.lit 0), e497, (.lit 0), (.lit 0), (.lit 0), (.lit 2), (.var 7), (.lit 0)]) .ok))))
def q570 : Tree := (.assert p538 (.assert p539 (.assert p541 (.assert p542 (.branch (.bin .eq e543 e205) (.assert p458 (.assert p462 (.assert p463 (.assert p465 (.assert p466 (.assert p544 (.havoc false (.havoc false (.assume p135 (.assume p545 (.branch e368 q473 (.assert p546 (.assert p475 (.assert p474 (.assert p477 (.assert p478 (.assert p479 (.assert p480 (.assert p547 (.assert p482 (.havoc false (.havoc false (.havoc false (.havoc false (.havoc false (.assume p306 (.assume p483 (.assume p484 (.assume p548 (.assume p486 (.assume p487 (.assume p488 (.assume p489 (.assume p310 (.branch e490 (.assert p550 (.assert p551 (.assert p552 (.havoc false (.havoc false (.assume p493 (.assume p553 (.branch e495 (.branch e496 q568 q555) (.branch e508 (.branch e496 q568 q556) (.branch e85 (.branch e496 q568 q557) q511)))))))))) (.assert p134 (.assert p107 (.assert p498 (.assert (.pr 34 [(.var 0), (.var 6), (.lit 0), e497, (.var 10), (.var 11), (.var 12), (.lit 1), (.var 7), (.lit 1)]) .ok))))))))))))))))))))))))))))))))))))))) (.branch (.bin .eq e543 e209) (.assert p458 (.assert p462 (.assert p463 (.assert p465 (.assert p466 (.assert p544 (.havoc false (.havoc false (.assume p135 (.assume p545 (.branch e368 q512 (.assert p546 (.assert p475 (.assert p474 (.assert p477 (.assert p478 (.assert p479 (.assert p480 (.assert p547 (.assert p482 (.havoc false (.havoc false (.havoc false (.havoc false (.havoc false (.assume p306 (.assume p483 (.assume p484 (.assume p548 (.assume p486 (.assume p487 (.assume p488 (.assume p489 (.assume p310 (.branch e490 (.assert p550 (.assert p551 (.assert p552 (.havoc false (.havoc false (.assume p493 (.assume p553 (.branch e495 (.branch e496 q569 q555) (.branch e508 (.branch e496 q569 q556) (.branch e85 (.branch e496 q569 q557) q511)))))))))) (.assert p134 (.assert p107 (.assert p498 (.assert (.pr 34 [(.var 0), (.var 6), (.lit 0), e497, (.var 10), (.var 11), (.var 12), (.lit 2), (.var 7), (.lit 1)]) .ok))))))))))))))))))))))))))))))))))))))) q452))))))
def q571 : Tree := (.assert p134 (.assert p107 (.assert p498 (.assert (.pr 34 [(.var 0), (.var 6), (.lit 0), e497, (.lit 0), (.lit 0), (.lit 0), (.lit 0), (.lit 0), (.lit 0)]) .ok))))
def e572 : E := (.bin .add (.lit 1) e453)
def p573 : PE := (.tt (.bin .le (.fn 1001 e543 (.lit 0) (.lit 0) (.lit 0)) e1))
def p574 : PE := (.pr 10 [e543, (.var 7), (.var 8)])
def p575 : PE := (.tt (.bin .le e453 e112))
def p576 : PE := (.pr 58 [(.var 1), (.lit 1), (.lit 0), (.lit 0), (.lit 0), (.lit 0)])
def p577 : PE := (.pr 58 [(.var 1), (.lit 1), (.var 9), (.var 10), (.var 11), (.var 12)])
def e578 : E := (.bin .add (.lit 1) (.var 9))
def p579 : PE := (.tt (.bin .le (.fn 1001 (.sel (.var 1) e578 0) (.lit 0) (.lit 0) (.lit 0)) e1))
def p580 : PE := (.pr 10 [(.sel (.var 1) e578 0), (.var 14), (.var 15)])
def q581 : Tree := (.assert p503 (.assert p504 (.assert p505 (.assert (.pr 58 [(.var 1), (.lit 1), e502, (.var 10), (.var 11), (.var 14)]) q506))))
def q582 : Tree := (.assert p503 (.assert p504 (.assert p505 (.assert (.pr 58 [(.var 1), (.lit 1), e502, (.var 10), (.var 14), (.var 12)]) q506))))
def q583 : Tree := (.assert p503 (.assert p504 (.assert p505 (.assert (.pr 58 [(.var 1), (.lit 1), e502, (.var 14), (.var 11), (.var 12)]) q506))))
def q584 : Tree := (.assert p479 (.assert (.tt (.bin .lt e453 e112)) (.assert (.tt (.bin .le (.lit 0) e572)) (.assert (.tt (.bin .lt e572 (.var 2))) (.branch (.bin .eq (.sel (.var 1) e572 0) e205) (.assert p455 (.assert p538 (.assert p539 (.assert p541 (.assert p542 (.assert p573 (.havoc false (.havoc false (.assume p135 (.assume p574 (.branch e368 q473 (.assert p575 (.assert p480 (.assert p576 (.assert p482 (.havoc false (.havoc false (.havoc false (.havoc false (.havoc false (.assume p306 (.assume p483 (.assume p484 (.assume p577 (.assume p486 (.assume p487 (.assume p488 (.assume p489 (.assume p310 (.branch e490 (.assert (.tt (.bin .le (.lit 0) e578)) (.assert (.tt (.bin .lt e578 (.var 2))) (.assert p579 (.havoc false (.havoc false (.assume p493 (.assume p580 (.branch e495 (.branch e496 q473 q581) (.branch e508 (.branch e496 q473 q582) (.branch e85 (.branch e496 q473 q583) q511)))))))))) (.assert p134 (.assert p107 (.assert (.pr 34 [(.var 0), (.var 6), (.lit 0), (.lit 0), (.var 10), (.var 11), (.var 12), (.lit 1), (.var 7), (.lit 1)]) .ok))))))))))))))))))))))))))))))))) (.branch (.bin .eq (.sel (.var 1) e572 0) e209) (.assert p455 (.assert p538 (.assert p539 (.assert p541 (.assert p542 (.assert p573 (.havoc false (.havoc false (.assume p135 (.assume p574 (.branch e368 q512 (.assert p575 (.assert p480 (.assert p576 (.assert p482 (.havoc false (.havoc false (.havoc false (.havoc false (.havoc false (.assume p306 (.assume p483 (.assume p484 (.assume p577 (.assume p486 (.assume p487 (.assume p488 (.assume p489 (.assume p310 (.branch e490 (.assert (.tt (.bin .le (.lit 0) e578)) (.assert (.tt (.bin .lt e578 (.var 2))) (.assert p579 (.havoc false (.havoc false (.assume p493 (.assume p580 (.branch e495 (.branch e496 q512 q581) (.branch e508 (.branch e496 q512 q582) (.branch e85 (.branch e496 q512 q583) q511)))))))))) (.assert p134 (.assert p107 (.assert (.pr 34 [(.var 0), (.var 6), (.lit 0), (.lit 0), (.var 10), (.var 11), (.var 12), (.lit 2), (.var 7), (.lit 1)]) .ok))))))))))))))))))))))))))))))))) q452))))))
def e585 : E := (.bin .add (.lit 1) (.var 7))
def e586 : E := (.lit 500)
def e587 : E := (.lit 100)
def e588 : E := (.fn 1001 (.var 11) (.lit 0) (.lit 0) (.lit 0))
def p589 : PE := (.rng .i64 (.var 15))
def e590 : E := (.fn 1001 (.var 19) (.lit 0) (.lit 0) (.lit 0))
def q591 : Tree := (.fail 100)
def e592 : E := (.fn 1001 (.var 27) (.lit 0) (.lit 0) (.lit 0))
def p593 : PE := (.rng .i64 (.var 29))
def tDig : Tree := .ok
def tInt : Tree := (.assume p2 (.havoc false (.havoc false (.assume (.same (.var 1) e3) (.assume (.same (.var 2) e4) (.assert (.tt (.bin .le (.lit 0) e5)) (.assert (.pr 73 [e3, (.lit 0)]) (.havoc false (.assume p6 (.assume (.tt (.bin .le (.var 3) e5)) (.assume (.pr 73 [e3, (.var 3)]) (.branch (.bin .lt (.var 3) e5) (.branch (.bin .le (.lit 48) e7) (.branch (.bin .eq (.bin .le e7 (.lit 57)) (.lit 0)) q8 (.assert (.rng .i64 e9) (.assert p10 (.assert (.tt (.bin .le e9 e5)) (.assert (.pr 73 [e3, e9]) (.assert (.tt (.bin .le (.lit 0) (.bin .sub e5 e9))) (.assert (.tt (.bin .lt (.bin .sub e5 e9) (.bin .sub e5 (.var 3)))) .ok))))))) q8) (.branch (.bin .eq e3 (.lit 0)) q8 (.assert (.tt (.bin .lt (.lit 0) e5)) (.branch (.bin .eq (.fn 1004 e3 (.lit 0) (.lit 0) (.lit 0)) (.lit 48)) (.branch (.bin .lt (.lit 1) e5) q8 (.branch e4 q8 q15)) q15)))))))))))))))
def tName : Tree := (.assume p2 (.assert p16 (.assert (.pr 40 [(.var 0), (.lit 0)]) (.havoc false (.assume (.tt e17) (.assume p18 (.assume (.pr 40 [(.var 0), (.var 1)]) (.branch e19 (.branch (.bin .le (.lit 97) e21) (.branch (.bin .eq (.bin .le e21 (.lit 122)) (.lit 0)) q33 q32) q33) (.branch (.bin .le (.lit 1) e0) (.assert (.same (.bin .le e0 (.lit 16)) e22) .ok) q23)))))))))
def tPrn : Tree := (.assume p2 (.assert p16 (.assert (.pr 42 [(.var 0), (.var 1), (.lit 0)]) (.havoc false (.assume (.tt e34) (.assume p35 (.assume (.pr 42 [(.var 0), (.var 1), (.var 2)]) (.branch e36 (.branch (.bin .lt e37 (.var 1)) q38 (.branch (.bin .lt (.lit 126) e37) q38 (.assert p40 (.assert p41 (.assert p42 (.assert (.pr 42 [(.var 0), (.var 1), e39]) q44)))))) (.assert (.pr 41 [(.var 0), (.var 1), (.lit 1)]) .ok)))))))))
def tUnqP : Tree := (.assume (.tt (.bin .le e0 e45)) (.branch (.bin .lt e0 (.lit 2)) q47 (.assert (.tt e48) (.branch e50 q47 (.assert p52 (.assert p53 (.assert p54 (.branch e56 q47 (.assert (.tt (.bin .le (.lit 1) e51)) (.assert (.tt (.bin .le e51 e0)) (.assert (.tt (.bin .le (.fn 1001 (.fn 1003 (.var 0) (.lit 1) e51 (.lit 0)) (.lit 0) (.lit 0) (.lit 0)) (.lit 10000))) (.havoc false (.assume (.tt (.bin .le e57 (.lit 10000))) (.branch e59 (.assert p60 (.havoc false (.assume p61 (.branch e62 q47 (.havoc false (.assume (.tt (.bin .le e63 (.lit 20000))) (.assert (.tt (.bin .le (.bin .add (.lit 1) e63) e11)) (.assert (.tt (.bin .le (.bin .add (.fn 1001 e64 (.lit 0) (.lit 0) (.lit 0)) (.lit 1)) e11)) (.branch (.bin .ne (.fn 1002 e64 (.lit (-18)) (.lit 0) (.lit 0)) (.var 0)) q47 .ok))))))))) q47))))))))))))))
def tRgt : Tree := (.assume p60 (.branch (.var 0) (.branch e59 (.havoc false (.assume p61 q65)) q66) (.branch e67 (.branch e59 (.havoc false (.assume (.pr 41 [(.var 1), (.lit 33), (.var 2)]) (.branch (.var 2) (.havoc false (.assume (.same (.var 3) e68) (.assert (.pr 15 [(.var 0), (.var 1), (.bin .eq e68 (.lit 0))]) .ok))) q66))) q66) q66)))
def tIxF : Tree := (.assume p2 (.assert p16 (.assert (.pr 36 [(.var 0), (.var 1), (.lit 0), (.var 1)]) (.havoc false (.havoc false (.assume (.tt e34) (.assume p35 (.assume (.pr 36 [(.var 0), (.var 1), (.var 2), (.var 3)]) (.branch e36 (.branch (.bin .eq e69 (.lit 34)) (.branch (.bin .eq e69 (.lit 32)) (.branch (.bin .eq (.bin .ne e71 (.lit 0)) (.lit 1)) (.assert (.tt (.bin .le e72 (.var 2))) (.assert (.tt (.bin .lt (.var 2) e73)) (.assert (.pr 35 [(.var 0), (.var 1), (.var 2), e70]) .ok))) q76) q76) (.branch (.bin .eq e69 (.lit 32)) (.branch (.bin .eq (.bin .ne e70 (.lit 0)) (.lit 1)) (.assert (.tt (.bin .le e72 (.var 2))) (.assert (.tt (.bin .lt (.var 2) e73)) (.assert (.pr 35 [(.var 0), (.var 1), (.var 2), (.var 3)]) .ok))) q77) q77)) (.assert (.tt (.bin .lt e72 e73)) (.assert (.pr 35 [(.var 0), (.var 1), e72, (.var 3)]) .ok)))))))))))
def tSplP : Tree := (.assume p2 (.branch (.bin .lt (.lit 4096) e0) (.assert p78 q79) (.branch (.bin .eq (.var 0) (.lit 0)) (.assert p78 (.assert (.pr 16 [(.var 0), .zt, (.lit 0), (.lit 0)]) .ok)) (.assert (.tt (.bin .le e0 e0)) (.assert p78 (.assert (.pr 37 [(.var 0), (.var 0), (.lit 0), .zt, (.lit 0)]) (.havoc false (.havoc false (.havoc true (.havoc false (.assume p80 (.assume (.tt (.bin .le (.bin .add (.var 4) e57) e0)) (.assume (.pr 22 [(.var 3), (.var 4)]) (.assume (.pr 37 [(.var 0), (.var 1), (.var 2), (.var 3), (.var 4)]) (.assert p60 (.havoc false (.havoc false (.assume p81 (.assume (.tt (.bin .lt (.var 5) (.bin .add e57 (.lit 1)))) (.assume (.pr 35 [(.var 1), (.var 2), (.var 5), (.var 6)]) (.branch (.bin .lt (.var 5) (.lit 0)) (.havoc false (.assume (.same (.var 7) e82) (.branch e82 (.assert (.tt (.bin .le e57 e45)) (.havoc false (.havoc false (.assume p84 (.branch (.bin .eq e85 (.lit 0)) q86 (.assert p87 (.havoc false (.assume p88 (.branch e89 q86 (.assert p91 (.branch (.bin .lt (.lit 64) e90) q79 (.assert p92 (.assert (.pr 22 [e93, e90]) (.assert (.pr 16 [(.var 0), e93, e90, (.lit 0)]) .ok)))))))))))))) (.havoc false (.assume (.pr 15 [(.lit 0), (.var 1), (.var 8)]) (.branch e94 q86 (.assert p91 (.branch (.bin .lt (.lit 64) e90) q79 (.assert p92 (.assert (.pr 22 [(.upd e95 (.var 4) 1 (.var 1)), e90]) (.assert (.pr 16 [(.var 0), (.upd e95 (.var 4) 1 (.var 1)), e90, (.lit 0)]) .ok))))))))))) (.assert (.tt (.bin .le (.var 5) e57)) (.havoc false (.assume (.same (.var 7) e97) (.branch e97 (.assert (.tt (.bin .le e98 e45)) (.havoc false (.havoc false (.assume p84 (.branch (.bin .eq e85 (.lit 0)) q86 (.assert p87 (.havoc false (.assume p88 (.branch e89 q86 (.assert p91 (.assert p100 (.assert p101 (.assert (.tt (.bin .le e99 e57)) (.assert (.tt (.bin .le e57 e57)) (.assert p92 (.assert p104 (.assert (.pr 22 [e93, e90]) (.assert (.pr 37 [(.var 0), e102, (.var 6), e93, e90]) q105)))))))))))))))))) (.assert (.tt (.bin .le e98 e1)) (.havoc false (.assume (.pr 15 [(.lit 0), e96, (.var 8)]) (.branch e94 q86 (.assert p91 (.assert p100 (.assert p101 (.assert (.tt (.bin .le e99 e57)) (.assert (.tt (.bin .le e57 e57)) (.assert p92 (.assert p104 (.assert (.pr 22 [(.upd e95 (.var 4) 1 e96), e90]) (.assert (.pr 37 [(.var 0), e102, (.var 6), (.upd e95 (.var 4) 1 e96), e90]) q105))))))))))))))))))))))))))))))))))))))
def tFld : Tree := (.assume (.tt e17) (.assume (.tt e34) (.assume p106 (.assume (.pr 22 [(.var 0), (.var 4)]) (.branch e62 q108 (.assert p109 (.assert (.tt (.bin .lt (.var 1) (.var 4))) (.branch (.sel (.var 0) (.var 1) 0) q108 (.assert p110 (.assert p111 (.assert p29 (.assert p113 (.assert (.tt (.bin .le (.bin .add e27 e112) (.var 4))) (.assert (.tt (.bin .le (.fn 1001 (.sel (.var 0) (.var 1) 1) (.lit 0) (.lit 0) (.lit 0)) e1)) (.assert (.pr 33 [(.var 0), (.var 1), (.var 2), (.var 3), (.sel (.var 0) (.var 1) 1), e27, e112, (.var 3)]) .ok)))))))))))))))
def tNum : Tree := (.assume (.tt e17) (.assume (.tt e34) (.assume p106 (.assume (.pr 22 [(.var 0), (.var 4)]) (.havoc false (.havoc false (.havoc false (.havoc false (.assume p114 (.assume p115 (.assume (.tt (.bin .le (.bin .add (.var 6) (.var 7)) (.var 4))) (.assume p116 (.assume (.pr 33 [(.var 0), (.var 1), (.var 2), (.var 3), (.var 5), (.var 6), (.var 7), (.var 8)]) (.havoc false (.havoc false (.assume p117 (.assume (.pr 10 [(.var 5), (.var 9), (.var 10)]) (.branch (.var 8) (.assert (.pr 38 [(.var 0), (.var 1), (.var 2), (.var 3), (.var 9), (.var 6), (.var 7), (.lit 1)]) .ok) (.assert (.pr 38 [(.var 0), (.var 1), (.var 2), (.var 3), (.var 9), (.var 6), (.var 7), (.bin .eq e89 (.lit 0))]) .ok)))))))))))))))))))
def tAny : Tree := (.assume (.tt e34) (.assume p6 (.assume p118 (.assume p119 (.assert (.pr 83 [(.var 0), (.var 2), (.lit 0)]) (.havoc false (.assume p80 (.assume p120 (.assume (.pr 83 [(.var 0), (.var 2), (.var 4)]) (.branch (.bin .lt (.var 4) (.var 3)) (.assert (.tt (.bin .le (.lit 0) e121)) (.assert (.tt (.bin .lt e121 (.var 1))) (.branch (.bin .eq (.bin .eq e122 (.lit 0)) (.lit 0)) (.assert (.pr 81 [(.var 0), (.var 2), (.var 3), (.bin .le (.lit 0) (.var 4))]) .ok) (.assert p123 (.assert p92 (.assert (.tt (.bin .le e90 (.var 3))) (.assert (.pr 83 [(.var 0), (.var 2), e90]) q124))))))) (.assert (.pr 81 [(.var 0), (.var 2), (.var 3), (.lit 0)]) .ok)))))))))))
def tBig : Tree := (.assume (.tt e34) (.assume p6 (.assume p118 (.assume p119 (.assert (.pr 84 [(.var 0), (.var 2), (.lit 0)]) (.havoc false (.assume p80 (.assume p120 (.assume (.pr 84 [(.var 0), (.var 2), (.var 4)]) (.branch (.bin .lt (.var 4) (.var 3)) (.assert (.tt (.bin .le (.lit 0) e121)) (.assert (.tt (.bin .lt e121 (.var 1))) (.branch (.bin .lt e122 e125) q126 (.branch (.bin .lt e127 e122) q126 (.assert p123 (.assert p92 (.assert (.tt (.bin .le e90 (.var 3))) (.assert (.pr 84 [(.var 0), (.var 2), e90]) q124)))))))) (.assert (.pr 82 [(.var 0), (.var 2), (.var 3), (.lit 0)]) .ok)))))))))))
def tShpC : Tree := (.assume p128 (.assume p60 (.assume p130 (.assume p131 (.assume p132 (.assume p133 (.assume p134 (.assume p135 (.branch (.bin .lt (.var 0) (.lit 1)) q136 (.branch (.bin .le (.lit 14) (.var 0)) q136 (.branch (.bin .lt (.var 6) (.lit 0)) q136 (.branch (.bin .lt (.lit 2) (.var 6)) q136 (.branch e137 (.branch e139 q136 q172) q172)))))))))))))
def tWrC : Tree := (.assume p128 (.assume p60 (.assume p130 (.assume p131 (.assume p132 (.assume p133 (.assume p134 (.assume p135 (.assume p173 (.assert (.tt e140) (.assert p174 (.branch e67 (.branch e146 (.assert p151 (.assert p152 (.branch e175 (.havoc false (.assume p177 (.branch e178 (.havoc false (.assume p180 (.branch e181 (.havoc false (.assume p183 (.branch e159 (.havoc false (.assume p185 (.assert (.pr 30 [e206, (.lit 8), e207]) (.havoc false (.assume (.same (.var 12) e208) (.assert (.pr 32 [(.var 0), (.var 1), (.var 2), (.var 3), (.var 4), (.var 5), (.var 6), (.var 7), e208]) (.assert (.tt (.bin .le (.fn 1001 e208 (.lit 0) (.lit 0) (.lit 0)) e58)) .ok))))))) (.branch e160 (.havoc false (.assume p185 (.assert (.pr 30 [e210, (.lit 8), e207]) (.havoc false (.assume (.same (.var 12) e211) (.assert (.pr 32 [(.var 0), (.var 1), (.var 2), (.var 3), (.var 4), (.var 5), (.var 6), (.var 7), e211]) (.assert (.tt (.bin .le (.fn 1001 e211 (.lit 0) (.lit 0) (.lit 0)) e58)) .ok))))))) (.assert (.pr 30 [e204, (.lit 6), e207]) (.havoc false (.assume (.same (.var 11) e212) (.assert (.pr 32 [(.var 0), (.var 1), (.var 2), (.var 3), (.var 4), (.var 5), (.var 6), (.var 7), e212]) (.assert (.tt (.bin .le (.fn 1001 e212 (.lit 0) (.lit 0) (.lit 0)) e58)) .ok))))))))) (.branch e159 (.havoc false (.assume p213 (.assert (.pr 30 [e214, (.lit 7), e207]) (.havoc false (.assume (.same (.var 11) e215) (.assert (.pr 32 [(.var 0), (.var 1), (.var 2), (.var 3), (.var 4), (.var 5), (.var 6), (.var 7), e215]) (.assert (.tt (.bin .le (.fn 1001 e215 (.lit 0) (.lit 0) (.lit 0)) e58)) .ok))))))) (.branch e160 (.havoc false (.assume p213 (.assert (.pr 30 [e216, (.lit 7), e207]) (.havoc false (.assume (.same (.var 11) e217) (.assert (.pr 32 [(.var 0), (.var 1), (.var 2), (.var 3), (.var 4), (.var 5), (.var 6), (.var 7), e217]) (.assert (.tt (.bin .le (.fn 1001 e217 (.lit 0) (.lit 0) (.lit 0)) e58)) .ok))))))) (.assert (.pr 30 [e203, (.lit 5), e207]) (.havoc false (.assume (.same (.var 10) e218) (.assert (.pr 32 [(.var 0), (.var 1), (.var 2), (.var 3), (.var 4), (.var 5), (.var 6), (.var 7), e218]) (.assert (.tt (.bin .le (.fn 1001 e218 (.lit 0) (.lit 0) (.lit 0)) e58)) .ok)))))))))) (.branch e159 (.havoc false (.assume p219 (.assert (.pr 30 [e220, (.lit 6), e207]) (.havoc false (.assume (.same (.var 10) e221) (.assert (.pr 32 [(.var 0), (.var 1), (.var 2), (.var 3), (.var 4), (.var 5), (.var 6), (.var 7), e221]) (.assert (.tt (.bin .le (.fn 1001 e221 (.lit 0) (.lit 0) (.lit 0)) e58)) .ok))))))) (.branch e160 (.havoc false (.assume p219 (.assert (.pr 30 [e222, (.lit 6), e207]) (.havoc false (.assume (.same (.var 10) e223) (.assert (.pr 32 [(.var 0), (.var 1), (.var 2), (.var 3), (.var 4), (.var 5), (.var 6), (.var 7), e223]) (.assert (.tt (.bin .le (.fn 1001 e223 (.lit 0) (.lit 0) (.lit 0)) e58)) .ok))))))) (.assert (.pr 30 [e202, (.lit 4), e207]) (.havoc false (.assume (.same (.var 9) e224) (.assert (.pr 32 [(.var 0), (.var 1), (.var 2), (.var 3), (.var 4), (.var 5), (.var 6), (.var 7), e224]) (.assert (.tt (.bin .le (.fn 1001 e224 (.lit 0) (.lit 0) (.lit 0)) e58)) .ok)))))))))) (.branch e159 (.havoc false (.assume p225 (.assert (.pr 30 [e226, (.lit 5), e207]) (.havoc false (.assume (.same (.var 9) e227) (.assert (.pr 32 [(.var 0), (.var 1), (.var 2), (.var 3), (.var 4), (.var 5), (.var 6), (.var 7), e227]) (.assert (.tt (.bin .le (.fn 1001 e227 (.lit 0) (.lit 0) (.lit 0)) e58)) .ok))))))) (.branch e160 (.havoc false (.assume p225 (.assert (.pr 30 [e228, (.lit 5), e207]) (.havoc false (.assume (.same (.var 9) e229) (.assert (.pr 32 [(.var 0), (.var 1), (.var 2), (.var 3), (.var 4), (.var 5), (.var 6), (.var 7), e229]) (.assert (.tt (.bin .le (.fn 1001 e229 (.lit 0) (.lit 0) (.lit 0)) e58)) .ok))))))) (.assert (.pr 30 [e201, (.lit 3), e207]) (.havoc false (.assume (.same (.var 8) e230) (.assert (.pr 32 [(.var 0), (.var 1), (.var 2), (.var 3), (.var 4), (.var 5), (.var 6), (.var 7), e230]) (.assert (.tt (.bin .le (.fn 1001 e230 (.lit 0) (.lit 0) (.lit 0)) e58)) .ok)))))))))) (.assert p151 (.assert p152 (.branch e175 (.havoc false (.assume p177 (.branch e178 (.havoc false (.assume p180 (.branch e181 (.havoc false (.assume p183 (.branch e159 (.havoc false (.assume p185 (.assert (.pr 30 [e234, (.lit 7), e207]) (.havoc false (.assume (.same (.var 12) e235) (.assert (.pr 32 [(.var 0), (.var 1), (.var 2), (.var 3), (.var 4), (.var 5), (.var 6), (.var 7), e235]) (.assert (.tt (.bin .le (.fn 1001 e235 (.lit 0) (.lit 0) (.lit 0)) e58)) .ok))))))) (.branch e160 (.havoc false (.assume p185 (.assert (.pr 30 [e236, (.lit 7), e207]) (.havoc false (.assume (.same (.var 12) e237) (.assert (.pr 32 [(.var 0), (.var 1), (.var 2), (.var 3), (.var 4), (.var 5), (.var 6), (.var 7), e237]) (.assert (.tt (.bin .le (.fn 1001 e237 (.lit 0) (.lit 0) (.lit 0)) e58)) .ok))))))) (.assert (.pr 30 [e233, (.lit 5), e207]) (.havoc false (.assume (.same (.var 11) e238) (.assert (.pr 32 [(.var 0), (.var 1), (.var 2), (.var 3), (.var 4), (.var 5), (.var 6), (.var 7), e238]) (.assert (.tt (.bin .le (.fn 1001 e238 (.lit 0) (.lit 0) (.lit 0)) e58)) .ok))))))))) (.branch e159 (.havoc false (.assume p213 (.assert (.pr 30 [e239, (.lit 6), e207]) (.havoc false (.assume (.same (.var 11) e240) (.assert (.pr 32 [(.var 0), (.var 1), (.var 2), (.var 3), (.var 4), (.var 5), (.var 6), (.var 7), e240]) (.assert (.tt (.bin .le (.fn 1001 e240 (.lit 0) (.lit 0) (.lit 0)) e58)) .ok))))))) (.branch e160 (.havoc false (.assume p213 (.assert (.pr 30 [e241, (.lit 6), e207]) (.havoc false (.assume (.same (.var 11) e242) (.assert (.pr 32 [(.var 0), (.var 1), (.var 2), (.var 3), (.var 4), (.var 5), (.var 6), (.var 7), e242]) (.assert (.tt (.bin .le (.fn 1001 e242 (.lit 0) (.lit 0) (.lit 0)) e58)) .ok))))))) (.assert (.pr 30 [e232, (.lit 4), e207]) (.havoc false (.assume (.same (.var 10) e243) (.assert (.pr 32 [(.var 0), (.var 1), (.var 2), (.var 3), (.var 4), (.var 5), (.var 6), (.var 7), e243]) (.assert (.tt (.bin .le (.fn 1001 e243 (.lit 0) (.lit 0) (.lit 0)) e58)) .ok)))))))))) (.branch e159 (.havoc false (.assume p219 (.assert (.pr 30 [e244, (.lit 5), e207]) (.havoc false (.assume (.same (.var 10) e245) (.assert (.pr 32 [(.var 0), (.var 1), (.var 2), (.var 3), (.var 4), (.var 5), (.var 6), (.var 7), e245]) (.assert (.tt (.bin .le (.fn 1001 e245 (.lit 0) (.lit 0) (.lit 0)) e58)) .ok))))))) (.branch e160 (.havoc false (.assume p219 (.assert (.pr 30 [e246, (.lit 5), e207]) (.havoc false (.assume (.same (.var 10) e247) (.assert (.pr 32 [(.var 0), (.var 1), (.var 2), (.var 3), (.var 4), (.var 5), (.var 6), (.var 7), e247]) (.assert (.tt (.bin .le (.fn 1001 e247 (.lit 0) (.lit 0) (.lit 0)) e58)) .ok))))))) (.assert (.pr 30 [e231, (.lit 3), e207]) (.havoc false (.assume (.same (.var 9) e248) (.assert (.pr 32 [(.var 0), (.var 1), (.var 2), (.var 3), (.var 4), (.var 5), (.var 6), (.var 7), e248]) (.assert (.tt (.bin .le (.fn 1001 e248 (.lit 0) (.lit 0) (.lit 0)) e58)) .ok)))))))))) (.branch e159 (.havoc false (.assume p225 (.assert (.pr 30 [e249, (.lit 4), e207]) (.havoc false (.assume (.same (.var 9) e250) (.assert (.pr 32 [(.var 0), (.var 1), (.var 2), (.var 3), (.var 4), (.var 5), (.var 6), (.var 7), e250]) (.assert (.tt (.bin .le (.fn 1001 e250 (.lit 0) (.lit 0) (.lit 0)) e58)) .ok))))))) (.branch e160 (.havoc false (.assume p225 (.assert (.pr 30 [e251, (.lit 4), e207]) (.havoc false (.assume (.same (.var 9) e252) (.assert (.pr 32 [(.var 0), (.var 1), (.var 2), (.var 3), (.var 4), (.var 5), (.var 6), (.var 7), e252]) (.assert (.tt (.bin .le (.fn 1001 e252 (.lit 0) (.lit 0) (.lit 0)) e58)) .ok))))))) (.assert (.pr 30 [e200, (.lit 2), e207]) (.havoc false (.assume (.same (.var 8) e253) (.assert (.pr 32 [(.var 0), (.var 1), (.var 2), (.var 3), (.var 4), (.var 5), (.var 6), (.var 7), e253]) (.assert (.tt (.bin .le (.fn 1001 e253 (.lit 0) (.lit 0) (.lit 0)) e58)) .ok))))))))))) (.branch e146 (.assert p151 (.assert p152 (.branch e175 (.havoc false (.assume p177 (.branch e178 (.havoc false (.assume p180 (.branch e181 (.havoc false (.assume p183 (.branch e159 (.havoc false (.assume p185 (.assert (.pr 30 [e258, (.lit 7), e207]) (.havoc false (.assume (.same (.var 12) e259) (.assert (.pr 32 [(.var 0), (.var 1), (.var 2), (.var 3), (.var 4), (.var 5), (.var 6), (.var 7), e259]) (.assert (.tt (.bin .le (.fn 1001 e259 (.lit 0) (.lit 0) (.lit 0)) e58)) .ok))))))) (.branch e160 (.havoc false (.assume p185 (.assert (.pr 30 [e260, (.lit 7), e207]) (.havoc false (.assume (.same (.var 12) e261) (.assert (.pr 32 [(.var 0), (.var 1), (.var 2), (.var 3), (.var 4), (.var 5), (.var 6), (.var 7), e261]) (.assert (.tt (.bin .le (.fn 1001 e261 (.lit 0) (.lit 0) (.lit 0)) e58)) .ok))))))) (.assert (.pr 30 [e257, (.lit 5), e207]) (.havoc false (.assume (.same (.var 11) e262) (.assert (.pr 32 [(.var 0), (.var 1), (.var 2), (.var 3), (.var 4), (.var 5), (.var 6), (.var 7), e262]) (.assert (.tt (.bin .le (.fn 1001 e262 (.lit 0) (.lit 0) (.lit 0)) e58)) .ok))))))))) (.branch e159 (.havoc false (.assume p213 (.assert (.pr 30 [e263, (.lit 6), e207]) (.havoc false (.assume (.same (.var 11) e264) (.assert (.pr 32 [(.var 0), (.var 1), (.var 2), (.var 3), (.var 4), (.var 5), (.var 6), (.var 7), e264]) (.assert (.tt (.bin .le (.fn 1001 e264 (.lit 0) (.lit 0) (.lit 0)) e58)) .ok))))))) (.branch e160 (.havoc false (.assume p213 (.assert (.pr 30 [e265, (.lit 6), e207]) (.havoc false (.assume (.same (.var 11) e266) (.assert (.pr 32 [(.var 0), (.var 1), (.var 2), (.var 3), (.var 4), (.var 5), (.var 6), (.var 7), e266]) (.assert (.tt (.bin .le (.fn 1001 e266 (.lit 0) (.lit 0) (.lit 0)) e58)) .ok))))))) (.assert (.pr 30 [e256, (.lit 4), e207]) (.havoc false (.assume (.same (.var 10) e267) (.assert (.pr 32 [(.var 0), (.var 1), (.var 2), (.var 3), (.var 4), (.var 5), (.var 6), (.var 7), e267]) (.assert (.tt (.bin .le (.fn 1001 e267 (.lit 0) (.lit 0) (.lit 0)) e58)) .ok)))))))))) (.branch e159 (.havoc false (.assume p219 (.assert (.pr 30 [e268, (.lit 5), e207]) (.havoc false (.assume (.same (.var 10) e269) (.assert (.pr 32 [(.var 0), (.var 1), (.var 2), (.var 3), (.var 4), (.var 5), (.var 6), (.var 7), e269]) (.assert (.tt (.bin .le (.fn 1001 e269 (.lit 0) (.lit 0) (.lit 0)) e58)) .ok))))))) (.branch e160 (.havoc false (.assume p219 (.assert (.pr 30 [e270, (.lit 5), e207]) (.havoc false (.assume (.same (.var 10) e271) (.assert (.pr 32 [(.var 0), (.var 1), (.var 2), (.var 3), (.var 4), (.var 5), (.var 6), (.var 7), e271]) (.assert (.tt (.bin .le (.fn 1001 e271 (.lit 0) (.lit 0) (.lit 0)) e58)) .ok))))))) (.assert (.pr 30 [e255, (.lit 3), e207]) (.havoc false (.assume (.same (.var 9) e272) (.assert (.pr 32 [(.var 0), (.var 1), (.var 2), (.var 3), (.var 4), (.var 5), (.var 6), (.var 7), e272]) (.assert (.tt (.bin .le (.fn 1001 e272 (.lit 0) (.lit 0) (.lit 0)) e58)) .ok)))))))))) (.branch e159 (.havoc false (.assume p225 (.assert (.pr 30 [e273, (.lit 4), e207]) (.havoc false (.assume (.same (.var 9) e274) (.assert (.pr 32 [(.var 0), (.var 1), (.var 2), (.var 3), (.var 4), (.var 5), (.var 6), (.var 7), e274]) (.assert (.tt (.bin .le (.fn 1001 e274 (.lit 0) (.lit 0) (.lit 0)) e58)) .ok))))))) (.branch e160 (.havoc false (.assume p225 (.assert (.pr 30 [e275, (.lit 4), e207]) (.havoc false (.assume (.same (.var 9) e276) (.assert (.pr 32 [(.var 0), (.var 1), (.var 2), (.var 3), (.var 4), (.var 5), (.var 6), (.var 7), e276]) (.assert (.tt (.bin .le (.fn 1001 e276 (.lit 0) (.lit 0) (.lit 0)) e58)) .ok))))))) (.assert (.pr 30 [e254, (.lit 2), e207]) (.havoc false (.assume (.same (.var 8) e277) (.assert (.pr 32 [(.var 0), (.var 1), (.var 2), (.var 3), (.var 4), (.var 5), (.var 6), (.var 7), e277]) (.assert (.tt (.bin .le (.fn 1001 e277 (.lit 0) (.lit 0) (.lit 0)) e58)) .ok)))))))))) (.assert p151 (.assert p152 (.branch e175 (.havoc false (.assume p177 (.branch e178 (.havoc false (.assume p180 (.branch e181 (.havoc false (.assume p183 (.branch e159 (.havoc false (.assume p185 (.assert (.pr 30 [e281, (.lit 6), e207]) (.havoc false (.assume (.same (.var 12) e282) (.assert (.pr 32 [(.var 0), (.var 1), (.var 2), (.var 3), (.var 4), (.var 5), (.var 6), (.var 7), e282]) (.assert (.tt (.bin .le (.fn 1001 e282 (.lit 0) (.lit 0) (.lit 0)) e58)) .ok))))))) (.branch e160 (.havoc false (.assume p185 (.assert (.pr 30 [e283, (.lit 6), e207]) (.havoc false (.assume (.same (.var 12) e284) (.assert (.pr 32 [(.var 0), (.var 1), (.var 2), (.var 3), (.var 4), (.var 5), (.var 6), (.var 7), e284]) (.assert (.tt (.bin .le (.fn 1001 e284 (.lit 0) (.lit 0) (.lit 0)) e58)) .ok))))))) (.assert (.pr 30 [e280, (.lit 4), e207]) (.havoc false (.assume (.same (.var 11) e285) (.assert (.pr 32 [(.var 0), (.var 1), (.var 2), (.var 3), (.var 4), (.var 5), (.var 6), (.var 7), e285]) (.assert (.tt (.bin .le (.fn 1001 e285 (.lit 0) (.lit 0) (.lit 0)) e58)) .ok))))))))) (.branch e159 (.havoc false (.assume p213 (.assert (.pr 30 [e286, (.lit 5), e207]) (.havoc false (.assume (.same (.var 11) e287) (.assert (.pr 32 [(.var 0), (.var 1), (.var 2), (.var 3), (.var 4), (.var 5), (.var 6), (.var 7), e287]) (.assert (.tt (.bin .le (.fn 1001 e287 (.lit 0) (.lit 0) (.lit 0)) e58)) .ok))))))) (.branch e160 (.havoc false (.assume p213 (.assert (.pr 30 [e288, (.lit 5), e207]) (.havoc false (.assume (.same (.var 11) e289) (.assert (.pr 32 [(.var 0), (.var 1), (.var 2), (.var 3), (.var 4), (.var 5), (.var 6), (.var 7), e289]) (.assert (.tt (.bin .le (.fn 1001 e289 (.lit 0) (.lit 0) (.lit 0)) e58)) .ok))))))) (.assert (.pr 30 [e279, (.lit 3), e207]) (.havoc false (.assume (.same (.var 10) e290) (.assert (.pr 32 [(.var 0), (.var 1), (.var 2), (.var 3), (.var 4), (.var 5), (.var 6), (.var 7), e290]) (.assert (.tt (.bin .le (.fn 1001 e290 (.lit 0) (.lit 0) (.lit 0)) e58)) .ok)))))))))) (.branch e159 (.havoc false (.assume p219 (.assert (.pr 30 [e291, (.lit 4), e207]) (.havoc false (.assume (.same (.var 10) e292) (.assert (.pr 32 [(.var 0), (.var 1), (.var 2), (.var 3), (.var 4), (.var 5), (.var 6), (.var 7), e292]) (.assert (.tt (.bin .le (.fn 1001 e292 (.lit 0) (.lit 0) (.lit 0)) e58)) .ok))))))) (.branch e160 (.havoc false (.assume p219 (.assert (.pr 30 [e293, (.lit 4), e207]) (.havoc false (.assume (.same (.var 10) e294) (.assert (.pr 32 [(.var 0), (.var 1), (.var 2), (.var 3), (.var 4), (.var 5), (.var 6), (.var 7), e294]) (.assert (.tt (.bin .le (.fn 1001 e294 (.lit 0) (.lit 0) (.lit 0)) e58)) .ok))))))) (.assert (.pr 30 [e278, (.lit 2), e207]) (.havoc false (.assume (.same (.var 9) e295) (.assert (.pr 32 [(.var 0), (.var 1), (.var 2), (.var 3), (.var 4), (.var 5), (.var 6), (.var 7), e295]) (.assert (.tt (.bin .le (.fn 1001 e295 (.lit 0) (.lit 0) (.lit 0)) e58)) .ok)))))))))) (.branch e159 (.havoc false (.assume p225 (.assert (.pr 30 [e296, (.lit 3), e207]) (.havoc false (.assume (.same (.var 9) e297) (.assert (.pr 32 [(.var 0), (.var 1), (.var 2), (.var 3), (.var 4), (.var 5), (.var 6), (.var 7), e297]) (.assert (.tt (.bin .le (.fn 1001 e297 (.lit 0) (.lit 0) (.lit 0)) e58)) .ok))))))) (.branch e160 (.havoc false (.assume p225 (.assert (.pr 30 [e298, (.lit 3), e207]) (.havoc false (.assume (.same (.var 9) e299) (.assert (.pr 32 [(.var 0), (.var 1), (.var 2), (.var 3), (.var 4), (.var 5), (.var 6), (.var 7), e299]) (.assert (.tt (.bin .le (.fn 1001 e299 (.lit 0) (.lit 0) (.lit 0)) e58)) .ok))))))) (.assert (.pr 30 [e199, (.lit 1), e207]) (.havoc false (.assume (.same (.var 8) e300) (.assert (.pr 32 [(.var 0), (.var 1), (.var 2), (.var 3), (.var 4), (.var 5), (.var 6), (.var 7), e300]) (.assert (.tt (.bin .le (.fn 1001 e300 (.lit 0) (.lit 0) (.lit 0)) e58)) .ok)))))))))))))))))))))))
def tStp : Tree := (.assume p2 (.havoc true (.havoc false (.havoc false (.assume (.tt e34) (.assume p301 (.assume (.pr 22 [(.var 1), (.var 2)]) (.assume p302 (.branch e71 q303 (.assert p111 (.havoc false (.havoc false (.havoc false (.havoc false (.assume p304 (.assume p114 (.assume (.tt (.bin .le (.bin .add (.var 5) (.var 6)) (.var 2))) (.assume p305 (.assume (.pr 33 [(.var 1), (.lit 0), (.var 2), (.lit 0), (.var 4), (.var 5), (.var 6), (.var 7)]) (.branch (.bin .eq (.lit 0) (.var 4)) q367 q367))))))))))))))))))))
def tLine : Tree := (.assume p128 (.assume p60 (.assume p130 (.assume p131 (.assume p132 (.assume p133 (.assume p134 (.assume p135 (.havoc false (.assume (.pr 31 [(.var 0), (.var 1), (.var 2), (.var 3), (.var 4), (.var 5), (.var 6), (.var 7), (.var 8)]) (.branch e368 (.assert (.tt (.bin .le e46 e58)) (.assert (.pr 54 [(.var 0), (.var 1), (.var 2), (.var 3), (.var 4), (.var 5), (.var 6), (.var 7), (.lit 0), (.var 8)]) .ok)) (.assert p173 (.havoc false (.assume (.pr 32 [(.var 0), (.var 1), (.var 2), (.var 3), (.var 4), (.var 5), (.var 6), (.var 7), (.var 9)]) (.assume (.tt (.bin .le (.fn 1001 (.var 9) (.lit 0) (.lit 0) (.lit 0)) e58)) (.assert (.pr 54 [(.var 0), (.var 1), (.var 2), (.var 3), (.var 4), (.var 5), (.var 6), (.var 7), (.var 9), (.lit 0)]) .ok))))))))))))))))
def tPLine : Tree := (.assume p2 (.havoc false (.havoc false (.havoc false (.havoc false (.havoc false (.havoc false (.havoc false (.havoc false (.havoc false (.assume p369 (.assume p130 (.assume (.tt (.bin .le e63 e1)) (.assume p132 (.assume p133 (.assume p134 (.assume p135 (.assume p365 (.assume (.pr 34 [(.var 0), (.var 1), (.var 2), (.var 3), (.var 4), (.var 5), (.var 6), (.var 7), (.var 8), (.var 9)]) (.branch e85 (.assert p107 (.assert (.pr 60 [(.var 0), (.lit 0), (.lit 0), (.lit 0), (.lit 0), (.lit 0), (.lit 0), (.lit 0), (.lit 0), (.lit 6)]) .ok)) (.havoc false (.assume (.pr 31 [(.var 1), (.var 2), (.var 3), (.var 4), (.var 5), (.var 6), (.var 7), (.var 8), (.var 10)]) (.branch (.bin .eq e89 (.lit 0)) (.assert p107 (.assert (.pr 60 [(.var 0), (.lit 0), (.lit 0), (.lit 0), (.lit 0), (.lit 0), (.lit 0), (.lit 0), (.lit 0), (.var 10)]) .ok)) (.assert (.pr 60 [(.var 0), (.var 1), (.var 2), (.var 3), (.var 4), (.var 5), (.var 6), (.var 7), (.var 8), (.lit 0)]) .ok))))))))))))))))))))))))
def tRDig : Tree := (.assume p128 (.assume (.pr 21 [(.var 0)]) (.branch (.bin .lt (.var 0) (.lit 0)) (.branch (.bin .lt (.lit (-10)) (.var 0)) (.assert (.rng .i64 e370) (.assert (.pr 20 [e370]) (.havoc false (.assume (.same (.var 1) e371) (.assert (.tt (.bin .le (.bin .add (.lit 1) (.fn 1001 e371 (.lit 0) (.lit 0) (.lit 0))) e11)) (.assert (.same (.fn 1002 (.lit 23) e371 (.lit 0) (.lit 0)) e372) .ok)))))) (.assert (.rng .i64 e373) (.assert (.pr 20 [e373]) (.havoc false (.assume (.same (.var 1) e374) (.assert (.rng .i64 e376) (.assert (.pr 20 [e376]) (.havoc false (.assume (.same (.var 2) e377) (.assert (.tt (.bin .le (.bin .add e378 (.fn 1001 e377 (.lit 0) (.lit 0) (.lit 0))) e11)) (.assert (.same (.fn 1002 e374 e377 (.lit 0) (.lit 0)) e372) .ok))))))))))) (.branch (.bin .lt (.var 0) (.lit 10)) (.assert (.rng .i64 (.bin .add (.lit 48) (.var 0))) (.assert (.byt e379 (.lit 1)) (.assert (.same (.fn 1005 e379 (.lit 1) (.lit 0) (.lit 0)) e372) .ok))) (.assert (.rng .i64 e373) (.assert (.pr 20 [e373]) (.havoc false (.assume (.same (.var 1) e374) (.assert (.rng .i64 e375) (.assert (.pr 20 [e375]) (.havoc false (.assume (.same (.var 2) e380) (.assert (.tt (.bin .le (.bin .add e378 (.fn 1001 e380 (.lit 0) (.lit 0) (.lit 0))) e11)) (.assert (.same (.fn 1002 e374 e380 (.lit 0) (.lit 0)) e372) .ok))))))))))))))
def tWhole : Tree := (.assume p2 (.branch e48 (.branch (.bin .eq e49 (.lit 45)) (.assert (.tt (.bin .le (.lit 1) e0)) (.havoc false (.assume p381 (.assume p18 (.branch e19 (.assert (.tt e17) (.branch e25 (.branch e26 q382 (.assert p28 (.assert (.tt (.bin .le (.lit 1) e27)) (.assert p30 q31)))) q382)) (.branch (.bin .eq e0 (.lit 1)) q382 (.assert (.tt (.bin .lt (.lit 1) e0)) (.branch (.bin .eq (.fn 1004 (.var 0) (.lit 1) (.lit 0) (.lit 0)) (.lit 48)) (.branch (.bin .lt (.lit 2) e0) q382 q383) q383)))))))) (.assert p16 (.havoc false (.assume (.tt e17) (.assume p18 (.branch e19 q384 (.branch (.bin .eq e0 (.lit 0)) q382 q385))))))) (.assert p16 (.havoc false (.assume (.tt e17) (.assume p18 (.branch e19 q384 (.branch (.bin .eq e0 (.lit 0)) q382 (.assert (.tt e48) q385)))))))))
def tRInt : Tree := (.assume p2 (.havoc false (.assume (.pr 11 [(.var 0), (.var 1)]) (.branch (.bin .eq (.var 1) (.lit 0)) q8 (.branch (.bin .lt (.lit 20) e0) q14 (.assert p16 (.assert (.same (.lit 0) (.fn 12 (.var 0) (.lit 0) (.lit 0) (.lit 0))) (.havoc false (.havoc false (.assume (.tt e34) (.assume p35 (.assume (.same (.var 3) e386) (.branch e36 (.branch (.bin .le (.lit 48) e37) (.branch (.bin .le e37 (.lit 57)) (.assert (.tt e48) (.branch (.bin .eq e49 (.lit 45)) (.assert (.rng .i64 (.bin .sub (.lit 0) e387)) (.assert p389 (.assert p390 (.assert (.same (.wrap .i64 (.bin .add e391 (.bin .sub (.lit 0) e387))) e392) q393)))) (.assert p389 (.assert p390 (.assert (.same (.wrap .i64 (.bin .add e391 e387)) e392) q393))))) q394) q394) (.assert (.rng .i64 e386) (.havoc false (.assume (.same (.var 4) e395) (.branch (.bin .ne e395 (.var 0)) q14 (.branch (.bin .lt e386 (.lit (-9223372036854775808))) q14 (.branch (.bin .lt (.lit 9223372036854775807) e386) q14 (.assert (.pr 10 [(.var 0), e386, (.lit 0)]) .ok))))))))))))))))))))
def tEnd : Tree := (.assume p2 (.assume (.tt e17) (.assume (.tt e19) (.branch e396 (.assert p28 (.assert (.tt (.bin .le (.var 1) e27)) (.assert p30 (.assert (.pr 13 [(.var 0), (.var 1), e27]) (.havoc false (.assume p397 (.assume p35 (.assume p398 (.branch e36 (.assert (.tt e34) (.branch (.bin .eq e37 (.lit 34)) (.assert p40 (.branch (.bin .eq e39 e0) q399 (.assert p41 (.assert (.tt (.bin .lt e39 e0)) (.branch (.bin .eq (.bin .eq (.fn 1004 (.var 0) e39 (.lit 0) (.lit 0)) (.lit 34)) (.lit 0)) q399 (.assert (.rng .i64 e400) (.assert (.tt (.bin .le (.var 1) e400)) (.assert (.tt (.bin .le e400 e0)) (.assert (.pr 13 [(.var 0), (.var 1), e400]) (.assert (.tt (.bin .le (.lit 0) (.bin .sub e0 e400))) (.assert (.tt (.bin .lt (.bin .sub e0 e400) e43)) .ok))))))))))) q401)) (.assert p18 q402)))))))))) (.assert (.tt (.bin .le (.var 1) (.var 1))) (.assert p18 (.assert (.pr 13 [(.var 0), (.var 1), (.var 1)]) (.havoc false (.assume p397 (.assume p35 (.assume p398 (.branch e36 (.assert (.tt e34) (.branch (.bin .eq e37 (.lit 32)) (.assert (.pr 12 [(.var 0), (.var 1), (.var 2)]) .ok) q401)) q402))))))))))))
def tText : Tree := (.assume p2 (.assert p16 (.assert (.pr 42 [(.var 0), (.lit 32), (.lit 0)]) (.havoc false (.assume (.tt e17) (.assume p18 (.assume (.pr 42 [(.var 0), (.lit 32), (.var 1)]) (.branch e19 (.branch (.bin .lt e20 (.lit 32)) q403 (.branch (.bin .lt (.lit 126) e20) q403 (.assert p28 (.assert p29 (.assert p30 (.assert (.pr 42 [(.var 0), (.lit 32), e27]) q31)))))) (.assert (.pr 14 [(.var 0), (.bin .le e0 e58)]) .ok)))))))))
def tUnq : Tree := (.assume p2 (.branch (.bin .lt e0 (.lit 2)) q404 (.assert (.tt e48) (.branch e50 q404 (.assert p52 (.assert p53 (.assert p54 (.branch e56 q404 (.assert (.tt (.bin .le (.lit 1) e0)) (.assert (.tt (.bin .le e46 (.lit 1))) (.havoc false (.havoc false (.assume p381 (.assume p18 (.assume (.tt (.bin .le e129 (.var 1))) (.branch (.bin .lt (.var 1) e51) (.assert p28 (.assert (.tt e17) (.assert (.tt (.bin .le (.var 1) e27)) (.assert p30 (.assert (.tt (.bin .le (.bin .add e129 (.fn 1001 e405 (.lit 0) (.lit 0) (.lit 0))) e11)) (.assert (.tt e19) (.branch e396 (.branch (.bin .eq e27 e51) q404 (.assert p29 (.assert (.tt (.bin .lt e27 e0)) (.branch (.bin .eq (.bin .eq (.fn 1004 (.var 0) e27 (.lit 0) (.lit 0)) (.lit 34)) (.lit 0)) q404 (.assert (.rng .i64 e406) (.assert (.tt (.bin .le (.lit 1) e406)) (.assert (.tt (.bin .le e406 e0)) (.assert (.tt (.bin .le e407 e406)) (.assert (.tt (.bin .le (.lit 0) (.bin .sub e0 e406))) (.assert (.tt (.bin .lt (.bin .sub e0 e406) (.bin .sub e0 (.var 1)))) .ok)))))))))) (.assert (.tt (.bin .le (.lit 1) e27)) (.assert (.tt (.bin .le e407 e27)) q31))))))))) (.assert p130 (.havoc false (.assume (.pr 14 [(.var 2), (.var 3)]) (.branch e70 q404 .ok))))))))))))))))))))
def tRight : Tree := (.assume p60 (.branch (.var 0) (.havoc false (.assume (.pr 14 [(.var 1), (.var 2)]) q65)) (.branch (.bin .eq e57 (.lit 0)) q66 (.assert (.tt (.bin .le (.lit 0) e57)) (.assert (.pr 74 [(.var 1), (.lit 0)]) (.havoc false (.assume (.tt e34) (.assume (.tt (.bin .le (.var 2) e57)) (.assume (.pr 74 [(.var 1), (.var 2)]) (.branch (.bin .lt (.var 2) e57) (.branch (.bin .eq e408 (.lit 32)) q66 (.branch (.bin .eq e408 (.lit 34)) q66 (.assert p40 (.assert p41 (.assert (.tt (.bin .le e39 e57)) (.assert (.pr 74 [(.var 1), e39]) (.assert (.tt (.bin .le (.lit 0) (.bin .sub e57 e39))) (.assert (.tt (.bin .lt (.bin .sub e57 e39) (.bin .sub e57 (.var 2)))) .ok)))))))) (.havoc false (.assume (.pr 14 [(.var 1), (.var 3)]) (.assert (.pr 15 [(.var 0), (.var 1), (.var 3)]) .ok)))))))))))))
def tRSpl : Tree := (.assume p2 (.branch (.bin .lt (.lit 4096) e0) (.assert p78 q79) (.assert (.tt (.bin .le (.lit 0) e73)) (.assert p78 (.assert (.pr 17 [(.var 0), (.lit 0), .zt, (.lit 0)]) (.havoc false (.havoc true (.havoc false (.assume (.tt e17) (.assume (.tt (.bin .le (.var 1) e73)) (.assume p6 (.assume (.tt (.bin .le (.var 3) (.var 1))) (.assume (.pr 22 [(.var 2), (.var 3)]) (.assume (.pr 17 [(.var 0), (.var 1), (.var 2), (.var 3)]) (.branch e19 (.havoc false (.assume (.tt (.bin .le (.var 1) (.var 4))) (.assume (.tt (.bin .le (.var 4) e0)) (.assume (.pr 12 [(.var 0), (.var 1), (.var 4)]) (.branch e396 (.assert p410 (.havoc false (.havoc false (.assume p116 (.branch e411 q86 (.havoc false (.assume (.pr 15 [(.lit 1), (.var 5), (.var 7)]) (.branch e138 q86 (.branch (.bin .lt (.var 4) e0) (.assert p80 (.branch e412 q86 (.assert p123 (.branch (.bin .eq e90 e0) q86 (.assert p413 q416))))) (.assert p413 (.assert p123 q416))))))))))) (.assert p410 (.havoc false (.assume (.pr 15 [(.lit 0), e409, (.var 5)]) (.branch e417 q86 (.branch (.bin .lt (.var 4) e0) (.assert p80 (.branch e412 q86 (.assert p123 (.branch (.bin .eq e90 e0) q86 (.assert p413 q419))))) (.assert p413 (.assert p123 q419)))))))))))) (.branch (.bin .lt (.lit 64) (.var 3)) q79 (.assert (.pr 16 [(.var 0), (.var 2), (.var 3), (.lit 0)]) .ok)))))))))))))))))
def tRName : Tree := (.assume p2 (.branch (.bin .lt e0 (.lit 1)) q23 (.branch (.bin .lt (.lit 16) e0) q23 (.assert (.tt e48) (.branch (.bin .le (.lit 97) e49) (.branch (.bin .le e49 (.lit 122)) q422 q423) q423)))))
def tTab : Tree := (.assert (.pr 80 [(.upd (.upd (.upd (.upd (.upd (.upd (.upd (.upd (.upd (.upd (.upd (.upd (.upd (.upd (.upd (.upd (.upd (.upd (.upd (.upd (.upd (.upd (.upd (.upd (.upd (.upd (.upd (.upd (.upd (.upd (.upd (.upd (.upd (.upd (.upd (.upd (.upd (.upd (.upd (.upd (.upd (.upd (.upd (.upd (.upd (.upd .zt (.lit 1) 0 e186) (.lit 1) 1 (.lit (-56))) (.lit 1) 2 (.lit 23)) (.lit 1) 3 (.lit 3)) (.lit 2) 0 e187) (.lit 2) 1 (.lit 56)) (.lit 2) 2 (.lit 23)) (.lit 3) 0 e188) (.lit 3) 1 (.lit 56)) (.lit 3) 2 (.lit (-12728))) (.lit 3) 3 (.lit 2)) (.lit 4) 0 (.lit 909750583)) (.lit 4) 1 (.lit 56)) (.lit 4) 2 (.lit (-14136))) (.lit 5) 0 e189) (.lit 5) 1 (.lit 56)) (.lit 5) 2 (.lit 14136)) (.lit 6) 0 e190) (.lit 6) 1 (.lit 56)) (.lit 6) 2 (.lit 23)) (.lit 7) 0 e191) (.lit 7) 1 (.lit 56)) (.lit 7) 2 (.lit 12728)) (.lit 7) 3 (.lit 1)) (.lit 8) 0 e192) (.lit 8) 1 (.lit 56)) (.lit 8) 2 (.lit 12728)) (.lit 8) 3 (.lit 2)) (.lit 9) 0 e193) (.lit 9) 1 (.lit 23)) (.lit 9) 2 (.lit 23)) (.lit 9) 3 (.lit 1)) (.lit 10) 0 e194) (.lit 10) 1 (.lit 23)) (.lit 10) 2 (.lit 23)) (.lit 11) 0 e195) (.lit 11) 1 (.lit 23)) (.lit 11) 2 (.lit 23)) (.lit 11) 3 (.lit 1)) (.lit 12) 0 e196) (.lit 12) 1 (.lit 23)) (.lit 12) 2 (.lit 23)) (.lit 12) 3 (.lit 3)) (.lit 13) 0 e197) (.lit 13) 1 (.lit 56)) (.lit 13) 2 (.lit 23))]) .ok)
def tStepR : Tree := (.assume p128 (.assume p60 (.assume p130 (.assume p131 (.assume p132 (.assume p133 (.assume p134 (.assume p135 (.branch (.bin .lt (.var 0) (.lit 1)) q136 (.havoc true (.assume (.pr 80 [(.var 8)]) (.branch (.bin .le (.lit 14) (.var 0)) q136 (.branch (.bin .lt (.var 6) (.lit 0)) q136 (.branch (.bin .lt (.lit 2) (.var 6)) q136 (.branch e137 (.branch e139 q136 q443) q443)))))))))))))))
def tWds : Tree := (.assume p2 (.havoc true (.havoc false (.havoc false (.assume (.tt e34) (.assume p301 (.assume (.pr 22 [(.var 1), (.var 2)]) (.assume p302 (.assert (.pr 56 [(.var 1), (.lit 0), .zt, (.lit 0)]) (.havoc false (.havoc true (.havoc false (.assume p80 (.assume p444 (.assume p114 (.assume (.pr 56 [(.var 1), (.var 4), (.var 5), (.var 6)]) (.branch (.bin .lt (.var 4) (.var 2)) (.branch (.sel (.var 1) (.var 4) 0) (.assert p445 (.assert (.pr 55 [(.var 0), .zt, (.lit 0), (.lit 0)]) .ok)) (.assert (.tt (.bin .le e446 e11)) (.assert p123 (.assert p92 (.assert (.tt (.bin .le e90 (.var 2))) (.assert (.tt (.bin .le (.lit 0) e446)) (.assert (.pr 56 [(.var 1), e90, (.upd (.var 5) (.var 6) 0 (.sel (.var 1) (.var 4) 1)), e446]) q447))))))) (.assert (.pr 23 [(.var 5), (.var 6)]) (.assert (.pr 55 [(.var 0), (.var 5), (.var 6), e70]) .ok)))))))))))))))))))
def tRaw : Tree := (.assume p2 (.havoc true (.havoc false (.havoc false (.assume (.tt e34) (.assume p448 (.assume p449 (.branch e70 q303 (.branch e62 q303 (.havoc true (.assume (.pr 80 [(.var 4)]) (.assert (.pr 57 [(.var 1), (.lit 1), (.lit 0)]) (.havoc false (.havoc false (.assume (.tt (.bin .le (.lit 1) (.var 5))) (.assume (.tt (.bin .le (.var 5) (.lit 14))) (.assume p114 (.assume (.tt (.bin .le (.var 6) (.lit 13))) (.assume (.pr 57 [(.var 1), (.var 5), (.var 6)]) (.branch (.bin .lt (.var 5) (.lit 14)) (.assert p304 (.assert p109 (.branch (.bin .eq (.sel (.var 4) (.var 5) 0) e450) (.assert p100 (.assert (.tt (.bin .le (.lit 1) e99)) (.assert (.tt (.bin .le e99 (.lit 14))) (.assert (.tt (.bin .le (.var 5) (.lit 13))) (.assert (.pr 57 [(.var 1), e99, (.var 5)]) q451))))) (.assert p100 (.assert (.tt (.bin .le (.lit 1) e99)) (.assert (.tt (.bin .le e99 (.lit 14))) (.assert (.pr 57 [(.var 1), e99, (.var 6)]) q451))))))) (.branch e137 q452 (.assert (.tt (.bin .lt (.var 6) (.lit 14))) (.assert p110 (.assert p111 (.branch (.bin .ne (.sel (.var 4) (.var 6) 1) (.lit 23)) (.assert p455 (.branch e456 (.assert p458 (.branch e459 (.assert p460 (.branch (.bin .eq e461 (.lit 0)) q452 q514)) (.assert p460 (.branch e461 q514 (.assert p515 (.assert p474 (.assert p516 (.assert p517 (.assert (.tt (.bin .lt (.lit 0) e518)) (.assert p476 (.assert (.tt (.bin .le (.lit 1) e518)) (.assert (.tt (.bin .le e518 e518)) (.assert (.tt (.bin .le (.lit 0) e519)) (.assert (.tt (.bin .le e519 (.lit 3))) (.assert p481 (.assert (.tt (.bin .le e519 e453)) (.assert (.tt (.bin .le e453 e519)) (.havoc false (.havoc false (.havoc false (.havoc false (.havoc false (.assume p115 (.assume p520 (.assume p521 (.assume (.pr 58 [(.var 1), (.lit 3), (.var 7), (.var 8), (.var 9), (.var 10)]) (.assume p522 (.assume p523 (.assume p365 (.assume p117 (.assume p488 (.branch e524 (.assert (.tt (.bin .le (.lit 0) e525)) (.assert (.tt (.bin .lt e525 (.var 2))) (.assert (.tt (.bin .le (.fn 1001 (.sel (.var 1) e525 0) (.lit 0) (.lit 0) (.lit 0)) e1)) (.havoc false (.havoc false (.assume p310 (.assume (.pr 10 [(.sel (.var 1) e525 0), (.var 12), (.var 13)]) (.branch e526 (.branch e528 q529 (.assert p531 (.assert p532 (.assert p533 (.assert (.pr 58 [(.var 1), (.lit 3), e530, (.var 8), (.var 9), (.var 12)]) q534))))) (.branch e535 (.branch e528 q529 (.assert p531 (.assert p532 (.assert p533 (.assert (.pr 58 [(.var 1), (.lit 3), e530, (.var 8), (.var 12), (.var 10)]) q534))))) (.branch e138 (.branch e528 q529 (.assert p531 (.assert p532 (.assert p533 (.assert (.pr 58 [(.var 1), (.lit 3), e530, (.var 12), (.var 9), (.var 10)]) q534))))) q511)))))))))) (.assert p134 (.assert p498 (.assert p500 (.assert (.pr 34 [(.var 0), (.var 6), e497, e499, (.var 8), (.var 9), (.var 10), (.lit 0), (.lit 0), (.lit 1)]) .ok)))))))))))))))))))))))))))))))))))) (.branch e536 (.assert p469 (.branch (.bin .eq e537 (.lit 0)) q452 q559)) (.assert p469 (.branch e537 q559 (.assert p515 (.assert p474 (.assert p516 (.assert p517 (.assert (.tt (.bin .le (.lit 0) e518)) (.assert (.tt (.bin .le e518 (.lit 3))) (.assert p547 (.assert (.tt (.bin .le e518 e453)) (.assert (.tt (.bin .le e453 e518)) (.havoc false (.havoc false (.havoc false (.havoc false (.havoc false (.assume p115 (.assume p520 (.assume p521 (.assume p560 (.assume p522 (.assume p523 (.assume p365 (.assume p117 (.assume p488 (.branch e524 (.assert (.tt (.bin .le (.lit 0) e561)) (.assert (.tt (.bin .lt e561 (.var 2))) (.assert p562 (.havoc false (.havoc false (.assume p310 (.assume p563 (.branch e526 (.branch e528 q564 q565) (.branch e535 (.branch e528 q564 q566) (.branch e138 (.branch e528 q564 q567) q511)))))))))) (.assert p134 (.assert p498 (.assert p107 (.assert (.pr 34 [(.var 0), (.var 6), e497, (.lit 0), (.var 8), (.var 9), (.var 10), (.lit 0), (.lit 0), (.lit 1)]) .ok))))))))))))))))))))))))))))))))) (.branch e456 (.assert p455 (.branch e536 (.assert p469 (.branch (.bin .eq e537 (.lit 0)) q452 q570)) (.assert p469 (.branch e537 q570 (.assert p515 (.assert p474 (.assert p516 (.assert p517 (.assert (.tt (.bin .le (.lit 0) e518)) (.assert (.tt (.bin .le e518 (.lit 3))) (.assert p547 (.assert (.tt (.bin .le e518 e453)) (.assert (.tt (.bin .le e453 e518)) (.havoc false (.havoc false (.havoc false (.havoc false (.havoc false (.assume p115 (.assume p520 (.assume p521 (.assume p560 (.assume p522 (.assume p523 (.assume p365 (.assume p117 (.assume p488 (.branch e524 (.assert (.tt (.bin .le (.lit 0) e561)) (.assert (.tt (.bin .lt e561 (.var 2))) (.assert p562 (.havoc false (.havoc false (.assume p310 (.assume p563 (.branch e526 (.branch e528 q571 q565) (.branch e535 (.branch e528 q571 q566) (.branch e138 (.branch e528 q571 q567) q511)))))))))) (.assert p134 (.assert p107 (.assert p498 (.assert (.pr 34 [(.var 0), (.var 6), (.lit 0), e497, (.var 8), (.var 9), (.var 10), (.lit 0), (.lit 0), (.lit 1)]) .ok)))))))))))))))))))))))))))))))) (.branch (.bin .eq (.bin .eq e112 e453) (.lit 0)) (.assert p458 (.branch e459 q452 q584)) (.assert p458 (.branch (.bin .eq e112 e457) q584 (.assert p113 (.assert (.tt (.bin .le e112 (.lit 3))) (.assert p576 (.assert (.tt (.bin .le e112 e453)) (.assert p575 (.havoc false (.havoc false (.havoc false (.havoc false (.havoc false (.assume p115 (.assume p520 (.assume p521 (.assume (.pr 58 [(.var 1), (.lit 1), (.var 7), (.var 8), (.var 9), (.var 10)]) (.assume p522 (.assume p523 (.assume p365 (.assume p117 (.assume p488 (.branch e524 (.assert (.tt (.bin .le (.lit 0) e585)) (.assert (.tt (.bin .lt e585 (.var 2))) (.assert (.tt (.bin .le (.fn 1001 (.sel (.var 1) e585 0) (.lit 0) (.lit 0) (.lit 0)) e1)) (.havoc false (.havoc false (.assume p310 (.assume (.pr 10 [(.sel (.var 1) e585 0), (.var 12), (.var 13)]) (.branch e526 (.branch e528 q452 (.assert p531 (.assert p532 (.assert p533 (.assert (.pr 58 [(.var 1), (.lit 1), e530, (.var 8), (.var 9), (.var 12)]) q534))))) (.branch e535 (.branch e528 q452 (.assert p531 (.assert p532 (.assert p533 (.assert (.pr 58 [(.var 1), (.lit 1), e530, (.var 8), (.var 12), (.var 10)]) q534))))) (.branch e138 (.branch e528 q452 (.assert p531 (.assert p532 (.assert p533 (.assert (.pr 58 [(.var 1), (.lit 1), e530, (.var 12), (.var 9), (.var 10)]) q534))))) q511)))))))))) (.assert p134 (.assert p107 (.assert (.pr 34 [(.var 0), (.var 6), (.lit 0), (.lit 0), (.var 8), (.var 9), (.var 10), (.lit 0), (.lit 0), (.lit 1)]) .ok))))))))))))))))))))))))))))))))))))))))))))))))))))
def tRPLine : Tree := (.assume p2 (.havoc false (.havoc false (.havoc false (.havoc false (.havoc false (.havoc false (.havoc false (.havoc false (.havoc false (.assume p369 (.assume p130 (.assume (.tt (.bin .le e63 e1)) (.assume p132 (.assume p133 (.assume p134 (.assume p135 (.assume p365 (.assume (.pr 34 [(.var 0), (.var 1), (.var 2), (.var 3), (.var 4), (.var 5), (.var 6), (.var 7), (.var 8), (.var 9)]) (.branch e85 (.assert p107 (.assert (.pr 60 [(.var 0), (.lit 0), (.lit 0), (.lit 0), (.lit 0), (.lit 0), (.lit 0), (.lit 0), (.lit 0), (.lit 6)]) .ok)) (.havoc false (.assume (.pr 31 [(.var 1), (.var 2), (.var 3), (.var 4), (.var 5), (.var 6), (.var 7), (.var 8), (.var 10)]) (.branch (.bin .eq e89 (.lit 0)) (.assert p107 (.assert (.pr 60 [(.var 0), (.lit 0), (.lit 0), (.lit 0), (.lit 0), (.lit 0), (.lit 0), (.lit 0), (.lit 0), (.var 10)]) .ok)) (.assert (.pr 60 [(.var 0), (.var 1), (.var 2), (.var 3), (.var 4), (.var 5), (.var 6), (.var 7), (.var 8), (.lit 0)]) .ok))))))))))))))))))))))))
def tLns : Tree := (.assume p128 (.assume p131 (.assume p132 (.assume p133 (.assume p134 (.assume p135 (.branch (.bin .lt e586 e83) .ok (.branch (.bin .lt e587 e57) .ok (.branch (.bin .lt e587 e129) .ok (.assert p87 (.havoc false (.havoc false (.havoc false (.havoc false (.havoc false (.havoc false (.havoc false (.havoc false (.havoc false (.assume p117 (.assume (.tt (.bin .le (.fn 1001 (.var 10) (.lit 0) (.lit 0) (.lit 0)) e1)) (.assume (.tt (.bin .le e588 e1)) (.assume p310 (.assume (.rng .i64 (.var 13)) (.assume p493 (.assume p589 (.assume p317 (.assume (.pr 60 [(.var 8), (.var 9), (.var 10), (.var 11), (.var 12), (.var 13), (.var 14), (.var 15), (.var 16), (.var 17)]) (.havoc false (.havoc false (.havoc false (.havoc false (.havoc false (.havoc false (.havoc false (.havoc false (.havoc false (.assume (.rng .i64 (.var 18)) (.assume (.tt (.bin .le e590 e1)) (.assume p358 (.assume (.rng .i64 (.var 21)) (.assume (.rng .i64 (.var 22)) (.assume (.rng .i64 (.var 23)) (.assume p360 (.assume (.rng .i64 (.var 25)) (.assume (.pr 60 [(.var 8), (.var 18), (.var 19), (.var 20), (.var 21), (.var 22), (.var 23), (.var 24), (.var 25), (.var 26)]) (.branch (.bin .eq (.bin .and (.bin .eq (.var 9) (.var 18)) (.bin .and (.bin .eq (.var 10) (.var 19)) (.bin .and (.bin .eq (.var 11) (.var 20)) (.bin .and (.bin .eq (.var 12) (.var 21)) (.bin .and (.bin .eq (.var 13) (.var 22)) (.bin .and (.bin .eq (.var 14) (.var 23)) (.bin .and (.bin .eq (.var 15) (.var 24)) (.bin .and (.bin .eq (.var 16) (.var 25)) (.lit 1))))))))) (.lit 0)) q591 (.branch (.bin .eq (.bin .eq (.var 17) (.var 26)) (.lit 0)) q591 (.assert p60 (.assert p130 (.havoc false (.havoc false (.assume (.tt (.bin .le e592 e58)) (.assume (.pr 54 [(.var 0), (.var 1), (.var 2), (.var 3), (.var 4), (.var 5), (.var 6), (.var 7), (.var 27), (.var 28)]) (.branch (.bin .eq (.bin .eq (.var 28) (.lit 0)) (.lit 0)) .ok (.assert (.tt (.bin .le e592 e1)) (.havoc false (.havoc false (.havoc false (.havoc false (.havoc false (.havoc false (.havoc false (.havoc false (.havoc false (.assume p593 (.assume (.tt (.bin .le (.fn 1001 (.var 30) (.lit 0) (.lit 0) (.lit 0)) e1)) (.assume (.tt (.bin .le (.fn 1001 (.var 31) (.lit 0) (.lit 0) (.lit 0)) e1)) (.assume (.rng .i64 (.var 32)) (.assume (.rng .i64 (.var 33)) (.assume (.rng .i64 (.var 34)) (.assume (.rng .i64 (.var 35)) (.assume (.rng .i64 (.var 36)) (.assume (.pr 60 [(.var 27), (.var 29), (.var 30), (.var 31), (.var 32), (.var 33), (.var 34), (.var 35), (.var 36), (.var 37)]) (.branch (.bin .eq (.var 37) (.lit 0)) (.branch (.bin .and (.bin .eq (.var 29) (.var 0)) (.bin .and (.bin .eq (.var 30) (.var 1)) (.bin .and (.bin .eq (.var 31) (.var 2)) (.bin .and (.bin .eq (.var 32) (.var 3)) (.bin .and (.bin .eq (.var 33) (.var 4)) (.bin .and (.bin .eq (.var 34) (.var 5)) (.bin .and (.bin .eq (.var 35) (.var 6)) (.bin .and (.bin .eq (.var 36) (.var 7)) (.lit 1))))))))) .ok q591) q591)))))))))))))))))))))))))))))))))))))))))))))))))))))))))))))))))))))))))))
end Go.Tt
namespace Go.Tt
open Go Go.Sx Go.Lib Go.Sf
theorem joinW_len : ∀ {ws : List (List UInt8)}, Bare ws → (joinW ws).length ≤ 201 * ws.length
  | [], _ => by simp [joinW]
  | w :: l, h => by
    have hw := (h w (by simp)).2.1
    have ih := joinW_len (ws := l) fun x hx => h x (by simp [hx])
    rw [joinW_cons, List.length_append]
    split <;> simp <;> omega
theorem line_len {t : Sp} (h1 : t.Norm) (h2 : t.NB) : t.line.length ≤ 1608 := by
  have := joinW_len (wd_bare h1 h2)
  have := wd_len t
  unfold Sp.line
  omega
theorem spl_of {s : Int} {T : Tb} {n e : Int} (hS : SplP s T n e) {t : Sp} (h1 : t.Norm) (h2 : t.NB) (hs : sdec s = t.line) : e = 0 ∧ n = (t.wd.length : Nat) ∧ RowsW T t.wd n := by
  refine hS.1 t.wd (wd_bare h1 h2) (by have := wd_len t; omega) ?_ hs
  unfold slen
  rw [hs]
  have := line_len h1 h2
  omega
structure RdS (s : Int) (T : Tb) (n : Int) (W : List (List UInt8)) (lo m bad : Int) : Prop where
  good : bad = 0 → lo = (W.length : Nat) ∧ m = n - (W.length : Nat) ∧ ∀ (i : Nat) (w : List UInt8), W[i]? = some w → T i 0 = 0 ∧ T i 1 = senc w
  comp : ∀ t : Sp, t.Norm → t.NB → sdec s = t.line → bad = 0 ∧ ∃ R, t.wd = W ++ R
variable {s n lo m bad x lo' m' bad' e : Int} {T : Tb} {W : List (List UInt8)}
theorem rd_begin : RdS s T n [] 0 n 0 := ⟨fun _ => ⟨rfl, by simp, fun i w h => by simp at h⟩, fun t _ _ _ => ⟨rfl, t.wd, rfl⟩⟩
theorem snoc_get {w : List UInt8} {i : Nat} {v : List UInt8} (h : (W ++ [w])[i]? = some v) : W[i]? = some v ∨ (i = W.length ∧ v = w) := by
  rcases Nat.lt_or_ge i W.length with h1 | h1
  · rw [List.getElem?_append_left h1] at h; exact .inl h
  · rw [List.getElem?_append_right h1] at h
    have h2 : i - W.length = 0 := by
      rcases Nat.eq_zero_or_pos (i - W.length) with h3 | h3
      · exact h3
      · rw [List.getElem?_eq_none (by simp; omega)] at h; cases h
    rw [h2] at h
    simp at h
    exact .inr ⟨by omega, h.symm⟩
theorem wd_at {t : Sp} {R : List (List UInt8)} {v : List UInt8} (h : t.wd = W ++ R) (hv : t.wd[W.length]? = some v) : ∃ R', R = v :: R' := by
  rw [h, List.getElem?_append_right (Nat.le_refl _), Nat.sub_self] at hv
  cases R with
  | nil => simp at hv
  | cons a R' => simp at hv; exact ⟨R', by rw [hv]⟩
theorem rd_field (hS : SplP s T n e) (h : RdS s T n W lo m bad) (hF : FieldP T lo m bad x lo' m' bad')
    (hl : ∀ t : Sp, t.Norm → t.NB → sdec s = t.line → (∃ R, t.wd = W ++ R) → W.length < t.wd.length) : RdS s T n (W ++ [sdec x]) lo' m' bad' := by
  refine ⟨fun hb => ?_, fun t h1 h2 hs => ?_⟩
  · rcases hF with ⟨g1, g2, g3, g4, g5, g6⟩ | ⟨_, _, _, _, g6⟩
    · obtain ⟨f1, f2, f3⟩ := h.good (by omega)
      refine ⟨by simp; omega, by simp; omega, fun i w hw => ?_⟩
      rcases snoc_get hw with hw | ⟨rfl, rfl⟩
      · exact f3 i w hw
      · subst f1; exact ⟨g2, by rw [senc_sdec]; exact g3.symm⟩
    · omega
  · obtain ⟨hb, R, hR⟩ := h.comp t h1 h2 hs
    obtain ⟨f1, f2, f3⟩ := h.good hb
    obtain ⟨_, hn, hr⟩ := spl_of hS h1 h2 hs
    have hlt := hl t h1 h2 hs ⟨R, hR⟩
    obtain ⟨r1, r2⟩ := hr W.length (by omega)
    rcases hF with ⟨g1, g2, g3, g4, g5, g6⟩ | ⟨g, _⟩
    · refine ⟨by omega, ?_⟩
      have hg := List.getElem?_eq_getElem hlt
      obtain ⟨R', rfl⟩ := wd_at hR hg
      have := r2 _ hg
      rw [f1] at g3
      rw [g3, this, sdec_senc]
      exact ⟨R', by rw [List.append_assoc]; exact hR⟩
    · exact absurd ⟨by omega, by rw [f1]; exact r1⟩ g
theorem rd_num (hS : SplP s T n e) (h : RdS s T n W lo m bad) (hN : NumP T lo m bad x lo' m' bad')
    (hl : ∀ t : Sp, t.Norm → t.NB → sdec s = t.line → (∃ R, t.wd = W ++ R) → ∃ v, I64 v ∧ t.wd[W.length]? = some (itoa v)) : RdS s T n (W ++ [itoa x]) lo' m' bad' := by
  obtain ⟨y, b, e', hF, hI, rfl⟩ := hN
  have h2 := rd_field hS h hF fun t h1 h2 h3 h4 => by
    obtain ⟨v, _, hv⟩ := hl t h1 h2 h3 h4
    exact (List.getElem?_eq_some_iff.1 hv).1
  refine ⟨fun hb => ?_, fun t h3 h4 hs => ?_⟩
  · have hb0 : b = 0 ∧ e' = 0 := by
      by_cases hh : b ≠ 0 ∨ e' ≠ 0
      · rw [if_pos hh] at hb; cases hb
      · omega
    obtain ⟨f1, f2, f3⟩ := h2.good hb0.1
    have : sdec y = itoa x := by
      rcases hI with ⟨_, _, h⟩ | ⟨h, _⟩
      · exact h
      · exact absurd hb0.2 h
    rw [this] at f1 f2 f3
    exact ⟨f1, f2, f3⟩
  · obtain ⟨hb, R, hR⟩ := h2.comp t h3 h4 hs
    obtain ⟨_, R0, hR0⟩ := h.comp t h3 h4 hs
    obtain ⟨v, hv, hg⟩ := hl t h3 h4 hs ⟨R0, hR0⟩
    have hy : sdec y = itoa v := by
      rw [hR] at hg
      rw [List.append_assoc, List.getElem?_append_right (Nat.le_refl _), Nat.sub_self] at hg
      simpa using hg
    rcases hI with ⟨he, hx, h⟩ | ⟨_, h⟩
    · have : x = v := itoa_inj hx hv (by rw [← h, hy])
      subst this
      exact ⟨by rw [if_neg (by omega)], R, by rw [hR, hy]⟩
    · exact absurd hy (h v hv)
def base (k : Nat) : Nat := 1 + (if kar k = 0 then 0 else 1) + (if knm k = 0 then 0 else 1)
theorem wd_head (t : Sp) : t.wd.head? = some (kw.getD t.k []) := rfl
theorem kind_of {t : Sp} (h1 : t.Norm) {k : Nat} (hk : 1 ≤ k ∧ k ≤ 13) {R : List (List UInt8)} (h : t.wd = W ++ R) (hW : W.head? = some (kw.getD k [])) : t.k = k := by
  have h2 := wd_head t
  rw [h, List.head?_append, hW] at h2
  have h3 : kw.getD k [] = kw.getD t.k [] := Option.some.inj h2
  exact (kw_inj (by omega) (by have := h1.k; omega) h3).symm
theorem wd_num {t : Sp} (h : t.Norm) {i : Nat} (hi : i < knum t.k) : ∃ v, I64 v ∧ t.wd[base t.k + i]? = some (itoa v) := by
  obtain ⟨k, a, m, x, y, z, w, n⟩ := t
  obtain ⟨h1, _, _, h4, h5, h6, _, _⟩ := h
  have h1 : 1 ≤ k ∧ k ≤ 13 := h1
  have hi : i < knum k := hi
  have h4 : I64 x ∧ _ := h4
  have h5 : I64 y ∧ _ := h5
  have h6 : I64 z ∧ _ := h6
  have hk : k = 1 ∨ k = 3 ∨ k = 7 ∨ k = 8 ∨ k = 9 ∨ k = 11 ∨ k = 12 := by
    unfold knum at hi
    split at hi <;> omega
  rcases hk with rfl | rfl | rfl | rfl | rfl | rfl | rfl <;> simp only [knum] at hi <;> simp only [Sp.wd, base, kar, knm, knum]
  all_goals
    rcases i with _ | _ | _ | i
    · exact ⟨x, h4.1, rfl⟩
    · first | (exact ⟨y, h5.1, rfl⟩) | omega
    · first | (exact ⟨z, h6.1, rfl⟩) | omega
    · omega
theorem wd_base (t : Sp) (h : t.Norm) : base t.k + knum t.k ≤ t.wd.length := by
  obtain ⟨k, a, m, x, y, z, w, n⟩ := t
  have h1 := h.k
  have h1 : 1 ≤ k ∧ k ≤ 13 := h1
  obtain ⟨j, rfl⟩ : ∃ j : Fin 14, k = j.val := ⟨⟨k, by omega⟩, rfl⟩
  unfold Sp.wd base
  simp only [List.length_cons, List.length_append, List.length_map, List.length_take]
  have : knum j.val ≤ 3 := by unfold knum; split <;> omega
  split <;> split <;> simp <;> omega
theorem rd_first (hS : SplP s T n e) (hF : FieldP T 0 n 0 x lo' m' bad') : RdS s T n [sdec x] lo' m' bad' := by
  have := rd_field hS (rd_begin (s := s) (T := T) (n := n)) hF fun t _ _ _ _ => by simp [Sp.wd]
  simpa using this
theorem rd_name (k : Nat) (hk : 1 ≤ k ∧ k ≤ 13) (hS : SplP s T n e) (h : RdS s T n W lo m bad) (hF : FieldP T lo m bad x lo' m' bad') (hW : W.head? = some (kw.getD k [])) (hl : W.length < base k + knum k) : RdS s T n (W ++ [sdec x]) lo' m' bad' := by
  refine rd_field hS h hF fun t h1 _ _ ⟨R, hR⟩ => ?_
  have := kind_of h1 hk hR hW
  have := wd_base t h1
  subst_vars
  omega
theorem rd_numb (k i : Nat) (hk : 1 ≤ k ∧ k ≤ 13) (hS : SplP s T n e) (h : RdS s T n W lo m bad) (hN : NumP T lo m bad x lo' m' bad') (hW : W.head? = some (kw.getD k [])) (hl : W.length = base k + i) (hi : i < knum k) : RdS s T n (W ++ [itoa x]) lo' m' bad' := by
  refine rd_num hS h hN fun t h1 _ _ ⟨R, hR⟩ => ?_
  have hk2 := kind_of h1 hk hR hW
  subst hk2
  rw [hl]
  exact wd_num h1 hi
variable {k a b y z w u : Int}
theorem raw_none (h : ∀ t : Sp, t.Norm → t.NB → sdec s ≠ t.line) : RawP s k a b x y z w u 0 := .inr ⟨rfl, h⟩
theorem raw_bad (h : RdS s T n W lo m bad) (hb : ¬ bad = 0) : RawP s k a b x y z w u 0 := raw_none fun t h1 h2 hs => hb (h.comp t h1 h2 hs).1
theorem raw_yes (hS : SplP s T n 0) (h : RdS s T n W lo m 0) (hm : m = 0) (hk : 0 ≤ k) (hN : (stp k a b x y z w u).Norm) (hW : W = (stp k a b x y z w u).wd) : RawP s k a b x y z w u 1 := by
  obtain ⟨f1, f2, f3⟩ := h.good rfl
  have hr : ∀ r : Nat, (r : Int) < n → T r 0 = 0 := fun r hr => by
    have hl : r < W.length := by omega
    exact (f3 r _ (List.getElem?_eq_getElem hl)).1
  obtain ⟨ws, h1, h2, h3, h4, h5⟩ := hS.2 rfl hr
  have e : ws = W := by
    apply List.ext_getElem?
    intro i
    rcases Nat.lt_or_ge i ws.length with hi | hi
    · have hg := List.getElem?_eq_getElem hi
      have g1 := (h5 i (by omega)).2 _ hg
      have hj : i < W.length := by omega
      have g2 := (f3 i _ (List.getElem?_eq_getElem hj)).2
      rw [hg, List.getElem?_eq_getElem hj]
      rw [g1] at g2
      rw [show ws[i] = W[i] from by have := congrArg sdec g2; rwa [sdec_senc, sdec_senc] at this]
    · rw [List.getElem?_eq_none hi, List.getElem?_eq_none (by omega)]
  subst e
  refine .inl ⟨by decide, hk, hN, ?_, by rw [h4, hW]; rfl⟩
  rw [hW] at h1
  constructor
  · intro hk
    exact h1 _ (by unfold Sp.wd; rw [if_neg hk]; simp)
  · intro hk
    exact h1 _ (by unfold Sp.wd; rw [if_neg hk]; simp)
theorem wd_pre (t : Sp) (_h : t.Norm) : ∃ P : List (List UInt8), P.length = base t.k + knum t.k ∧ t.wd = P ++ (if t.w = 1 then [wIs, itoa t.n] else if t.w = 2 then [wFails, itoa t.n] else []) := by
  refine ⟨kw.getD t.k [] :: ((if kar t.k = 0 then [] else [t.a]) ++ (if knm t.k = 0 then [] else [t.m]) ++ (([t.x, t.y, t.z].take (knum t.k)).map itoa)), ?_, by unfold Sp.wd; simp⟩
  have : knum t.k ≤ 3 := by unfold knum; split <;> omega
  unfold base
  simp only [List.length_cons, List.length_append, List.length_map, List.length_take]
  split <;> split <;> simp <;> omega
theorem wd_want {t : Sp} (h : t.Norm) {R : List (List UInt8)} (hR : t.wd = W ++ R) (hW : W.length = base t.k + knum t.k) : R = if t.w = 1 then [wIs, itoa t.n] else if t.w = 2 then [wFails, itoa t.n] else [] := by
  obtain ⟨P, h1, h2⟩ := wd_pre t h
  rw [h2] at hR
  exact (List.append_inj hR (by omega)).2.symm
theorem stp_want (w u : Int) (hw : w = 1 ∨ w = 2) : (stp k a b x y z w u).wd = (stp k a b x y z 0 0).wd ++ [if w = 1 then wIs else wFails, itoa u] := by
  rcases hw with rfl | rfl <;> simp [stp, Sp.wd] <;> rfl
theorem norm_want {w u : Int} (hw : w = 1 ∨ w = 2) (hu : I64 u) (h : (stp k a b x y z 0 0).Norm) : (stp k a b x y z w u).Norm := by
  obtain ⟨h1, h2, h3, h4, h5, h6, _, _⟩ := h
  exact ⟨h1, h2, h3, h4, h5, h6, .inr hw, hu, fun h0 => by
    have h0 : w = 0 := h0
    omega⟩
structure Tail (s : Int) (T : Tb) (n : Int) (W : List (List UInt8)) (k a b x y z : Int) : Prop where
  spl : SplP s T n 0
  k13 : 1 ≤ k.toNat ∧ k.toNat ≤ 13
  k0 : 0 ≤ k
  head : W.head? = some (kw.getD k.toNat [])
  len : W.length = base k.toNat + knum k.toNat
  eq : W = (stp k a b x y z 0 0).wd
  norm : (stp k a b x y z 0 0).Norm
theorem tail0 (H : Tail s T n W k a b x y z) (h : RdS s T n W lo m bad) (hm : m = 0) : (bad = 0 → RawP s k a b x y z 0 0 (if m = 0 then 1 else 0)) ∧ (¬ bad = 0 → RawP s k a b x y z 0 0 0) := by
  refine ⟨fun hb => ?_, fun hb => raw_bad h hb⟩
  subst hb
  rw [if_pos hm]
  exact raw_yes H.spl h hm H.k0 H.norm H.eq
theorem tail_more (H : Tail s T n W k a b x y z) (h : RdS s T n W lo m bad) (hm : ¬ m = 0) {t : Sp} (h1 : t.Norm) (h2 : t.NB) (hs : sdec s = t.line) :
    ∃ R, t.wd = W ++ R ∧ t.k = k.toNat ∧ ((t.w = 1 ∧ R = [wIs, itoa t.n]) ∨ (t.w = 2 ∧ R = [wFails, itoa t.n])) := by
  obtain ⟨hb, R, hR⟩ := h.comp t h1 h2 hs
  obtain ⟨f1, f2, f3⟩ := h.good hb
  obtain ⟨_, hn, _⟩ := spl_of H.spl h1 h2 hs
  have hk := kind_of h1 H.k13 hR H.head
  have hw := wd_want h1 hR (by rw [hk]; exact H.len)
  have hlen : t.wd.length = W.length + R.length := by rw [hR, List.length_append]
  refine ⟨R, hR, hk, ?_⟩
  rcases h1.w with h0 | h0 | h0
  · rw [h0] at hw; simp at hw; subst hw; simp at hlen; omega
  · exact .inl ⟨h0, by rw [hw, if_pos h0]⟩
  · exact .inr ⟨h0, by rw [hw, if_neg (by omega), if_pos h0]⟩
theorem tail_field (H : Tail s T n W k a b x y z) (h : RdS s T n W lo m bad) (hm : ¬ m = 0) {v lo2 m2 bad2 : Int} (hF : FieldP T lo m bad v lo2 m2 bad2) : RdS s T n (W ++ [sdec v]) lo2 m2 bad2 :=
  rd_field H.spl h hF fun t h1 h2 hs _ => by
    obtain ⟨R, hR, _, hh⟩ := tail_more H h hm h1 h2 hs
    rw [hR, List.length_append]
    rcases hh with ⟨_, rfl⟩ | ⟨_, rfl⟩ <;> simp
theorem tail_want (H : Tail s T n W k a b x y z) (h : RdS s T n W lo m bad) (hm : ¬ m = 0) {v lo2 m2 bad2 : Int} (hF : FieldP T lo m bad v lo2 m2 bad2) {w : Int} (hw : w = 1 ∨ w = 2) (hv : v = senc (if w = 1 then wIs else wFails))
    {u lo3 m3 bad3 : Int} (hu : I64 u) (hN : NumP T lo2 m2 bad2 u lo3 m3 bad3) : (bad3 = 0 → RawP s k a b x y z w u (if m3 = 0 then 1 else 0)) ∧ (¬ bad3 = 0 → RawP s k a b x y z w u 0) := by
  have h2 := tail_field H h hm hF
  have h3 := rd_num H.spl h2 hN fun t g1 g2 gs _ => by
    obtain ⟨R, hR, _, hh⟩ := tail_more H h hm g1 g2 gs
    refine ⟨t.n, g1.n.1, ?_⟩
    rw [hR, List.length_append, List.getElem?_append_right (by simp)]
    rcases hh with ⟨_, rfl⟩ | ⟨_, rfl⟩ <;> simp
  refine ⟨fun hb => ?_, fun hb => raw_bad h3 hb⟩
  subst hb
  by_cases h0 : m3 = 0
  · rw [if_pos h0]
    refine raw_yes H.spl h3 h0 H.k0 (norm_want hw hu H.norm) ?_
    rw [stp_want w u hw, ← H.eq, hv, sdec_senc, List.append_assoc]; rfl
  · rw [if_neg h0]
    refine raw_none fun t g1 g2 gs => ?_
    obtain ⟨R, hR, _, hh⟩ := tail_more H h hm g1 g2 gs
    obtain ⟨hb, R', hR'⟩ := h3.comp t g1 g2 gs
    obtain ⟨f1, f2, f3⟩ := h3.good rfl
    obtain ⟨_, hn, _⟩ := spl_of H.spl g1 g2 gs
    have hlen : t.wd.length = W.length + R.length := by rw [hR, List.length_append]
    have : R.length = 2 := by rcases hh with ⟨_, rfl⟩ | ⟨_, rfl⟩ <;> rfl
    simp at f2
    omega
theorem tail_other (H : Tail s T n W k a b x y z) (h : RdS s T n W lo m bad) (hm : ¬ m = 0) {v lo2 m2 bad2 : Int} (hF : FieldP T lo m bad v lo2 m2 bad2) (h1 : ¬ v = senc wIs) (h2 : ¬ v = senc wFails) (u : Int) : RawP s k a b x y z 0 u 0 := by
  refine raw_none fun t g1 g2 gs => ?_
  obtain ⟨R, hR, _, hh⟩ := tail_more H h hm g1 g2 gs
  obtain ⟨_, R', hR'⟩ := (tail_field H h hm hF).comp t g1 g2 gs
  rw [hR, List.append_assoc] at hR'
  have h3 := List.append_cancel_left hR'
  rcases hh with ⟨_, rfl⟩ | ⟨_, rfl⟩
  · simp at h3
    exact h1 (by rw [h3.1, senc_sdec])
  · simp at h3
    exact h2 (by rw [h3.1, senc_sdec])
theorem num_bad {lo3 m3 bad3 u : Int} (h : NumP T lo m 1 u lo3 m3 bad3) : ¬ bad3 = 0 := by
  obtain ⟨y, b, e', hF, _, rfl⟩ := h
  rcases hF with ⟨_, _, _, _, _, g⟩ | ⟨_, _, _, _, g⟩ <;> rw [if_pos (.inl (by omega))] <;> decide
theorem w_is : (14901 : Int) = senc wIs := by kernel_rfl
theorem w_fails : (-250025947444 : Int) = senc wFails := by kernel_rfl
theorem tail_a (H : Tail s T n W k a b x y z) (h : RdS s T n W lo m bad) :
    (m = 0 → (bad = 0 → slen 0 ≤ 100000 ∧ RawP s k a b x y z 0 0 (if m = 0 then 1 else 0)) ∧ (¬bad = 0 → slen 0 ≤ 100000 ∧ RawP s k a b x y z 0 0 0)) ∧
    (¬m = 0 → ∀ v lo2 m2 bad2 : Int, 0 ≤ lo2 → 0 ≤ m2 → lo2 + m2 ≤ n → slen v ≤ 100000 → FieldP T lo m bad v lo2 m2 bad2 →
      (v = 14901 → ∀ u lo3 m3 bad3 : Int, -9223372036854775808 ≤ u ∧ u ≤ 9223372036854775807 → 0 ≤ lo3 → 0 ≤ m3 → lo3 + m3 ≤ n → NumP T lo2 m2 bad2 u lo3 m3 bad3 → (bad3 = 0 → slen 0 ≤ 100000 ∧ RawP s k a b x y z 1 u (if m3 = 0 then 1 else 0)) ∧ (¬bad3 = 0 → slen 0 ≤ 100000 ∧ RawP s k a b x y z 1 u 0)) ∧
      (¬v = 14901 → (v = -250025947444 → ∀ u lo3 m3 bad3 : Int, -9223372036854775808 ≤ u ∧ u ≤ 9223372036854775807 → 0 ≤ lo3 → 0 ≤ m3 → lo3 + m3 ≤ n → NumP T lo2 m2 bad2 u lo3 m3 bad3 → (bad3 = 0 → slen 0 ≤ 100000 ∧ RawP s k a b x y z 2 u (if m3 = 0 then 1 else 0)) ∧ (¬bad3 = 0 → slen 0 ≤ 100000 ∧ RawP s k a b x y z 2 u 0)) ∧
        (¬v = -250025947444 → ∀ u lo3 m3 bad3 : Int, -9223372036854775808 ≤ u ∧ u ≤ 9223372036854775807 → 0 ≤ lo3 → 0 ≤ m3 → lo3 + m3 ≤ n → NumP T lo2 m2 1 u lo3 m3 bad3 → (bad3 = 0 → slen 0 ≤ 100000 ∧ RawP s k a b x y z 0 u (if m3 = 0 then 1 else 0)) ∧ (¬bad3 = 0 → slen 0 ≤ 100000 ∧ RawP s k a b x y z 0 u 0)))) := by
  have h00 : slen 0 ≤ 100000 := by rw [slen_0]; omega
  refine ⟨fun hm => ?_, fun hm v lo2 m2 bad2 _ _ _ _ hF => ⟨fun hv u lo3 m3 bad3 hu _ _ _ hN => ?_, fun h1 => ⟨fun hv u lo3 m3 bad3 hu _ _ _ hN => ?_, fun h2 u lo3 m3 bad3 hu _ _ _ hN => ?_⟩⟩⟩
  · exact ⟨fun hb => ⟨h00, (tail0 H h hm).1 hb⟩, fun hb => ⟨h00, (tail0 H h hm).2 hb⟩⟩
  · have t := tail_want H h hm hF (.inl rfl) (by rw [hv]; exact w_is) hu hN
    exact ⟨fun hb => ⟨h00, t.1 hb⟩, fun hb => ⟨h00, t.2 hb⟩⟩
  · have t := tail_want H h hm hF (.inr rfl) (by rw [hv]; exact w_fails) hu hN
    exact ⟨fun hb => ⟨h00, t.1 hb⟩, fun hb => ⟨h00, t.2 hb⟩⟩
  · have t := tail_other H h hm hF (fun e => h1 (by rw [e]; exact w_is.symm)) (fun e => h2 (by rw [e]; exact w_fails.symm)) u
    exact ⟨fun hb => absurd hb (num_bad hN), fun _ => ⟨h00, t⟩⟩
theorem tail_b (H : Tail s T n W k a b x y z) (h : RdS s T n W lo m bad) :
    (m = 0 → (bad = 0 → RawP s k a b x y z 0 0 (if m = 0 then 1 else 0)) ∧ (¬bad = 0 → RawP s k a b x y z 0 0 0)) ∧
    (¬m = 0 → ∀ v lo2 m2 bad2 : Int, 0 ≤ lo2 → 0 ≤ m2 → lo2 + m2 ≤ n → slen v ≤ 100000 → FieldP T lo m bad v lo2 m2 bad2 →
      (v = 14901 → ∀ u lo3 m3 bad3 : Int, -9223372036854775808 ≤ u ∧ u ≤ 9223372036854775807 → 0 ≤ lo3 → 0 ≤ m3 → lo3 + m3 ≤ n → NumP T lo2 m2 bad2 u lo3 m3 bad3 → (bad3 = 0 → RawP s k a b x y z 1 u (if m3 = 0 then 1 else 0)) ∧ (¬bad3 = 0 → RawP s k a b x y z 1 u 0)) ∧
      (¬v = 14901 → (v = -250025947444 → ∀ u lo3 m3 bad3 : Int, -9223372036854775808 ≤ u ∧ u ≤ 9223372036854775807 → 0 ≤ lo3 → 0 ≤ m3 → lo3 + m3 ≤ n → NumP T lo2 m2 bad2 u lo3 m3 bad3 → (bad3 = 0 → RawP s k a b x y z 2 u (if m3 = 0 then 1 else 0)) ∧ (¬bad3 = 0 → RawP s k a b x y z 2 u 0)) ∧
        (¬v = -250025947444 → ∀ u lo3 m3 bad3 : Int, -9223372036854775808 ≤ u ∧ u ≤ 9223372036854775807 → 0 ≤ lo3 → 0 ≤ m3 → lo3 + m3 ≤ n → NumP T lo2 m2 1 u lo3 m3 bad3 → (bad3 = 0 → RawP s k a b x y z 0 u (if m3 = 0 then 1 else 0)) ∧ (¬bad3 = 0 → RawP s k a b x y z 0 u 0)))) := by
  have h00 : slen 0 ≤ 100000 := by rw [slen_0]; omega
  refine ⟨fun hm => ?_, fun hm v lo2 m2 bad2 _ _ _ _ hF => ⟨fun hv u lo3 m3 bad3 hu _ _ _ hN => ?_, fun h1 => ⟨fun hv u lo3 m3 bad3 hu _ _ _ hN => ?_, fun h2 u lo3 m3 bad3 hu _ _ _ hN => ?_⟩⟩⟩
  · exact ⟨fun hb => (tail0 H h hm).1 hb, fun hb => (tail0 H h hm).2 hb⟩
  · have t := tail_want H h hm hF (.inl rfl) (by rw [hv]; exact w_is) hu hN
    exact ⟨fun hb => t.1 hb, fun hb => t.2 hb⟩
  · have t := tail_want H h hm hF (.inr rfl) (by rw [hv]; exact w_fails) hu hN
    exact ⟨fun hb => t.1 hb, fun hb => t.2 hb⟩
  · have t := tail_other H h hm hF (fun e => h1 (by rw [e]; exact w_is.symm)) (fun e => h2 (by rw [e]; exact w_fails.symm)) u
    exact ⟨fun hb => absurd hb (num_bad hN), fun _ => t⟩
theorem norm_mk {K : Int} (k : Nat) (hK : K.toNat = k) (hk : 1 ≤ k ∧ k ≤ 13) (ha : kar k = 0 → a = 0) (hb : knm k = 0 → b = 0) (hx : I64 x ∧ (knum k < 1 → x = 0)) (hy : I64 y ∧ (knum k < 2 → y = 0)) (hz : I64 z ∧ (knum k < 3 → z = 0)) :
    (stp K a b x y z 0 0).Norm := by
  subst hK
  exact ⟨hk, fun h => by show sdec a = []; rw [ha h]; rfl, fun h => by show sdec b = []; rw [hb h]; rfl, hx, hy, hz, .inl rfl, ⟨by show (-9223372036854775808 : Int) ≤ 0; decide, by show (0 : Int) ≤ 9223372036854775807; decide⟩, fun _ => rfl⟩
theorem i64_0 : I64 0 := ⟨by decide, by decide⟩
def kcode : Nat → Int
  | 1 => 56327174044082
  | 2 => -17231794176406323
  | 3 => 215691474609
  | 4 => 909750583
  | 5 => -55764601025338
  | 6 => -252115039034
  | 7 => -850475063
  | 8 => 220011707066
  | 9 => -909260091
  | 10 => -219919530809
  | 11 => -252148397367
  | 12 => -56325194363706
  | 13 => -859061045
  | _ => 0
theorem kc1 : senc (kw.getD 1 []) = (56327174044082 : Int) := by kernel_rfl
theorem kc2 : senc (kw.getD 2 []) = (-17231794176406323 : Int) := by kernel_rfl
theorem kc3 : senc (kw.getD 3 []) = (215691474609 : Int) := by kernel_rfl
theorem kc4 : senc (kw.getD 4 []) = (909750583 : Int) := by kernel_rfl
theorem kc5 : senc (kw.getD 5 []) = (-55764601025338 : Int) := by kernel_rfl
theorem kc6 : senc (kw.getD 6 []) = (-252115039034 : Int) := by kernel_rfl
theorem kc7 : senc (kw.getD 7 []) = (-850475063 : Int) := by kernel_rfl
theorem kc8 : senc (kw.getD 8 []) = (220011707066 : Int) := by kernel_rfl
theorem kc9 : senc (kw.getD 9 []) = (-909260091 : Int) := by kernel_rfl
theorem kc10 : senc (kw.getD 10 []) = (-219919530809 : Int) := by kernel_rfl
theorem kc11 : senc (kw.getD 11 []) = (-252148397367 : Int) := by kernel_rfl
theorem kc12 : senc (kw.getD 12 []) = (-56325194363706 : Int) := by kernel_rfl
theorem kc13 : senc (kw.getD 13 []) = (-859061045 : Int) := by kernel_rfl
theorem kc {j : Nat} (h1 : 1 ≤ j) (h2 : j ≤ 13) : senc (kw.getD j []) = kcode j := by
  have : j = 1 ∨ j = 2 ∨ j = 3 ∨ j = 4 ∨ j = 5 ∨ j = 6 ∨ j = 7 ∨ j = 8 ∨ j = 9 ∨ j = 10 ∨ j = 11 ∨ j = 12 ∨ j = 13 := by omega
  rcases this with rfl | rfl | rfl | rfl | rfl | rfl | rfl | rfl | rfl | rfl | rfl | rfl | rfl
  · exact kc1
  · exact kc2
  · exact kc3
  · exact kc4
  · exact kc5
  · exact kc6
  · exact kc7
  · exact kc8
  · exact kc9
  · exact kc10
  · exact kc11
  · exact kc12
  · exact kc13
theorem raw_kind {v : Int} (hS : SplP s T n 0) (hF : FieldP T 0 n 0 v lo' m' bad') (h : ∀ j : Nat, 1 ≤ j → j ≤ 13 → ¬ kcode j = v) : RawP s k a b x y z w u 0 := raw_none fun t h1 h2 hs => by
  obtain ⟨_, R, hR⟩ := (rd_first hS hF).comp t h1 h2 hs
  have h3 := wd_head t
  rw [hR] at h3
  have h4 : sdec v = kw.getD t.k [] := Option.some.inj h3
  refine h t.k h1.k.1 h1.k.2 ?_
  rw [← kc h1.k.1 h1.k.2, ← h4, senc_sdec]
theorem kcase {v : Int} (h : (¬ kcode 1 = v ∧ ¬ kcode 2 = v ∧ ¬ kcode 3 = v ∧ ¬ kcode 4 = v ∧ ¬ kcode 5 = v ∧ ¬ kcode 6 = v ∧ ¬ kcode 7 = v) ∧ ¬ kcode 8 = v ∧ ¬ kcode 9 = v ∧ ¬ kcode 10 = v ∧ ¬ kcode 11 = v ∧ ¬ kcode 12 = v ∧ ¬ kcode 13 = v) :
    ∀ j : Nat, 1 ≤ j → j ≤ 13 → ¬ kcode j = v := by
  intro j h1 h2
  have : j = 1 ∨ j = 2 ∨ j = 3 ∨ j = 4 ∨ j = 5 ∨ j = 6 ∨ j = 7 ∨ j = 8 ∨ j = 9 ∨ j = 10 ∨ j = 11 ∨ j = 12 ∨ j = 13 := by omega
  obtain ⟨⟨a1, a2, a3, a4, a5, a6, a7⟩, a8, a9, a10, a11, a12, a13⟩ := h
  rcases this with rfl | rfl | rfl | rfl | rfl | rfl | rfl | rfl | rfl | rfl | rfl | rfl | rfl <;> assumption
theorem kcase0 : ∀ j : Nat, 1 ≤ j → j ≤ 13 → ¬ kcode j = 0 := kcase (by decide)
end Go.Tt
namespace Go.Tt
open Go Go.Sx Go.Lib Go.Sf
theorem colAr {k : Int} (h1 : 1 ≤ k) (h2 : k ≤ 13) : (tupd (tupd (tupd (tupd (tupd (tupd (tupd (tupd (tupd (tupd (tupd (tupd (tupd (tupd (fun _ _ => 0) 0 0 0) 1 0 1) 2 0 2) 3 0 2) 4 0 2) 5 0 2) 6 0 2) 7 0 2) 8 0 2) 9 0 0) 10 0 0) 11 0 0) 12 0 0) 13 0 2) k 0 = ((kar k.toNat : Nat) : Int) := by
  have : k = 1 ∨ k = 2 ∨ k = 3 ∨ k = 4 ∨ k = 5 ∨ k = 6 ∨ k = 7 ∨ k = 8 ∨ k = 9 ∨ k = 10 ∨ k = 11 ∨ k = 12 ∨ k = 13 := by omega
  rcases this with rfl | rfl | rfl | rfl | rfl | rfl | rfl | rfl | rfl | rfl | rfl | rfl | rfl <;> decide
theorem colNm {k : Int} (h1 : 1 ≤ k) (h2 : k ≤ 13) : (tupd (tupd (tupd (tupd (tupd (tupd (tupd (tupd (tupd (tupd (tupd (tupd (tupd (tupd (fun _ _ => 0) 0 0 0) 1 0 0) 2 0 0) 3 0 1) 4 0 1) 5 0 2) 6 0 0) 7 0 2) 8 0 2) 9 0 0) 10 0 0) 11 0 0) 12 0 0) 13 0 0) k 0 = ((knm k.toNat : Nat) : Int) := by
  have : k = 1 ∨ k = 2 ∨ k = 3 ∨ k = 4 ∨ k = 5 ∨ k = 6 ∨ k = 7 ∨ k = 8 ∨ k = 9 ∨ k = 10 ∨ k = 11 ∨ k = 12 ∨ k = 13 := by omega
  rcases this with rfl | rfl | rfl | rfl | rfl | rfl | rfl | rfl | rfl | rfl | rfl | rfl | rfl <;> decide
theorem colOf {k : Int} (h1 : 1 ≤ k) (h2 : k ≤ 13) : (tupd (tupd (tupd (tupd (tupd (tupd (tupd (tupd (tupd (tupd (tupd (tupd (tupd (tupd (fun _ _ => 0) 0 0 0) 1 0 0) 2 0 0) 3 0 3) 4 0 4) 5 0 4) 6 0 0) 7 0 3) 8 0 3) 9 0 0) 10 0 0) 11 0 0) 12 0 0) 13 0 0) k 0 = kof k.toNat := by
  have : k = 1 ∨ k = 2 ∨ k = 3 ∨ k = 4 ∨ k = 5 ∨ k = 6 ∨ k = 7 ∨ k = 8 ∨ k = 9 ∨ k = 10 ∨ k = 11 ∨ k = 12 ∨ k = 13 := by omega
  rcases this with rfl | rfl | rfl | rfl | rfl | rfl | rfl | rfl | rfl | rfl | rfl | rfl | rfl <;> decide
theorem colNum {k : Int} (h1 : 1 ≤ k) (h2 : k ≤ 13) : (tupd (tupd (tupd (tupd (tupd (tupd (tupd (tupd (tupd (tupd (tupd (tupd (tupd (tupd (fun _ _ => 0) 0 0 0) 1 0 3) 2 0 0) 3 0 2) 4 0 0) 5 0 0) 6 0 0) 7 0 1) 8 0 2) 9 0 1) 10 0 0) 11 0 1) 12 0 3) 13 0 0) k 0 = ((knum k.toNat : Nat) : Int) := by
  have : k = 1 ∨ k = 2 ∨ k = 3 ∨ k = 4 ∨ k = 5 ∨ k = 6 ∨ k = 7 ∨ k = 8 ∨ k = 9 ∨ k = 10 ∨ k = 11 ∨ k = 12 ∨ k = 13 := by omega
  rcases this with rfl | rfl | rfl | rfl | rfl | rfl | rfl | rfl | rfl | rfl | rfl | rfl | rfl <;> decide
theorem colWd {k : Int} (h1 : 1 ≤ k) (h2 : k ≤ 13) : (tupd (tupd (tupd (tupd (tupd (tupd (tupd (tupd (tupd (tupd (tupd (tupd (tupd (tupd (fun _ _ => 0) 0 0 0) 1 0 56327174044082) 2 0 (-17231794176406323)) 3 0 215691474609) 4 0 909750583) 5 0 (-55764601025338)) 6 0 (-252115039034)) 7 0 (-850475063)) 8 0 220011707066) 9 0 (-909260091)) 10 0 (-219919530809)) 11 0 (-252148397367)) 12 0 (-56325194363706)) 13 0 (-859061045)) k 0 = kcode k.toNat := by
  have : k = 1 ∨ k = 2 ∨ k = 3 ∨ k = 4 ∨ k = 5 ∨ k = 6 ∨ k = 7 ∨ k = 8 ∨ k = 9 ∨ k = 10 ∨ k = 11 ∨ k = 12 ∨ k = 13 := by omega
  rcases this with rfl | rfl | rfl | rfl | rfl | rfl | rfl | rfl | rfl | rfl | rfl | rfl | rfl <;> decide
theorem kar_le (k : Nat) : kar k ≤ 2 := by unfold kar; split <;> omega
theorem knm_le (k : Nat) : knm k ≤ 2 := by unfold knm; split <;> omega
theorem knum_le (k : Nat) : knum k ≤ 3 := by unfold knum; split <;> omega
theorem kcw {k : Int} (h1 : 1 ≤ k) (h2 : k ≤ 13) : kcode k.toNat = senc (kw.getD k.toNat []) := (kc (by omega) (by omega)).symm
def T3 (x y z : Int) : Tb := tupd (tupd (tupd (fun _ _ => 0) 0 0 x) 1 0 y) 2 0 z
theorem t3_0 (x y z : Int) : T3 x y z 0 0 = x := by simp [T3, tupd]
theorem t3_1 (x y z : Int) : T3 x y z 1 0 = y := by simp [T3, tupd]
theorem t3_2 (x y z : Int) : T3 x y z 2 0 = z := by simp [T3, tupd]
theorem any3 {x y z C b : Int} (h : AnyP (T3 x y z) C (3 - C) b) (h0 : 0 ≤ C) : b ≠ 0 ↔ (C < 1 ∧ x ≠ 0) ∨ (C < 2 ∧ y ≠ 0) ∨ (C < 3 ∧ z ≠ 0) := by
  unfold AnyP at h
  rw [h]
  constructor
  · rintro ⟨j, h1, h2, h3⟩
    have : j = 0 ∨ j = 1 ∨ j = 2 := by omega
    rcases this with rfl | rfl | rfl
    · rw [t3_0] at h3; exact .inl ⟨by omega, h3⟩
    · rw [t3_1] at h3; exact .inr (.inl ⟨by omega, h3⟩)
    · rw [t3_2] at h3; exact .inr (.inr ⟨by omega, h3⟩)
  · rintro (⟨h1, h2⟩ | ⟨h1, h2⟩ | ⟨h1, h2⟩)
    · exact ⟨0, by omega, by omega, by rw [t3_0]; exact h2⟩
    · exact ⟨1, by omega, by omega, by rw [t3_1]; exact h2⟩
    · exact ⟨2, by omega, by omega, by rw [t3_2]; exact h2⟩
theorem big3 {x y z b : Int} (h : BigA (T3 x y z) 0 3 b) : b ≠ 0 ↔ Big x ∨ Big y ∨ Big z := by
  unfold BigA at h
  rw [h]
  constructor
  · rintro ⟨j, h1, h2, h3⟩
    have : j = 0 ∨ j = 1 ∨ j = 2 := by omega
    rcases this with rfl | rfl | rfl
    · rw [t3_0] at h3; exact .inl h3
    · rw [t3_1] at h3; exact .inr (.inl h3)
    · rw [t3_2] at h3; exact .inr (.inr h3)
  · rintro (h2 | h2 | h2)
    · exact ⟨0, by omega, by omega, by rw [t3_0]; exact h2⟩
    · exact ⟨1, by omega, by omega, by rw [t3_1]; exact h2⟩
    · exact ⟨2, by omega, by omega, by rw [t3_2]; exact h2⟩
theorem join_joinW : ∀ ws : List (List UInt8), Lib.join ws [32] = joinW ws
  | [] => rfl
  | [w] => join_one w [32]
  | w :: x :: l => by
    have ih := join_joinW (x :: l)
    rw [join_cons] at ih ⊢
    show w ++ joinTail [32] (x :: l) = w ++ 32 :: joinW (x :: l)
    rw [← ih]
    simp [joinTail]
theorem blank : sdec (-17) = [32] := rfl
theorem joinS_rows {T : Tb} {ws : List (List UInt8)} {n : Int} (h : RowsS T ws n) : joinS T n (-17) = senc (joinW ws) := by
  obtain ⟨rfl, h2⟩ := h
  unfold joinS
  rw [blank, ← join_joinW]
  congr 2
  apply List.ext_getElem?
  intro i
  rw [Int.toNat_natCast]
  rcases Nat.lt_or_ge i ws.length with hi | hi
  · rw [List.getElem?_map, List.getElem?_range hi, List.getElem?_eq_getElem hi]
    simp only [Option.map_some]
    rw [h2 i _ (List.getElem?_eq_getElem hi), sdec_senc]
  · rw [List.getElem?_eq_none hi, List.getElem?_eq_none (by simpa using hi)]
theorem rows1 {c : Int} {w : List UInt8} (hc : c = senc w) : RowsS (tupd (fun _ _ => 0) 0 0 c) [w] 1 := by
  refine ⟨rfl, fun r v hr => ?_⟩
  cases r with
  | zero => simp at hr; subst hr; simp [tupd, hc]
  | succ r => simp at hr
theorem rowsP {T : Tb} {ws : List (List UInt8)} {n c : Int} {w : List UInt8} (h : RowsS T ws n) (hc : c = senc w) (n' : Int) (hn : n' = n + 1) : RowsS (tupd T n 0 c) (ws ++ [w]) n' := by
  obtain ⟨rfl, h2⟩ := h
  refine ⟨by simp; omega, fun r v hr => ?_⟩
  unfold tupd
  rcases snoc_get hr with h | ⟨rfl, rfl⟩
  · have := (List.getElem?_eq_some_iff.1 h).1
    rw [if_neg (by omega)]
    exact h2 r v h
  · rw [if_pos ⟨rfl, rfl⟩, hc]
theorem short_rows {T : Tb} {ws : List (List UInt8)} {n : Int} (h : RowsS T ws n) (hn : ws.length ≤ 1000) (hl : ∀ w ∈ ws, w.length ≤ 1000) : Short T n (-17) := by
  obtain ⟨rfl, h2⟩ := h
  refine ⟨by omega, by decide, fun r hr => ?_⟩
  have hr' : r < ws.length := by omega
  rw [h2 r _ (List.getElem?_eq_getElem hr'), slen_senc]
  have := hl _ (List.getElem_mem hr')
  omega
structure OkF (k a m x y z w n : Int) : Prop where
  k1 : 1 ≤ k
  k13 : k ≤ 13
  ar : kar k.toNat = 0 ↔ a = 0
  nm : knm k.toNat = 0 ↔ m = 0
  a16 : (sdec a).length ≤ 16
  m16 : (sdec m).length ≤ 16
  w : w = 0 ∨ w = 1 ∨ w = 2
theorem okF {k a m x y z w n : Int} (h : OkP k a m x y z w n) : OkF k a m x y z w n := by
  unfold OkP stepE at h
  split at h
  · cases h
  · rename_i h1
    split at h
    · cases h
    · rename_i h2
      split at h
      · cases h
      · rename_i h3
        have e1 : ∀ {p q : Prop}, ¬ (p ∧ ¬ q) → p → q := fun h hp => Classical.byContradiction fun hq => h ⟨hp, hq⟩
        have ha : kar k.toNat = 0 → a = 0 := fun hk => Classical.byContradiction fun ha => h2 (.inl ⟨hk, sdec_ne.2 ha⟩)
        have hm : knm k.toNat = 0 → m = 0 := fun hk => Classical.byContradiction fun ha => h2 (.inr (.inl ⟨hk, sdec_ne.2 ha⟩))
        have hA : kar k.toNat ≠ 0 → NameP (sdec a) := e1 fun hh => h3 (.inl hh)
        have hM : knm k.toNat ≠ 0 → NameP (sdec m) := e1 fun hh => h3 (.inr hh)
        have ne : ∀ {b : Int}, NameP (sdec b) → b ≠ 0 := fun hb e => by
          subst e
          have := hb.1
          simp [sdec_0] at this
        refine ⟨by omega, by omega, ⟨ha, fun e => Classical.byContradiction fun hk => ne (hA hk) e⟩, ⟨hm, fun e => Classical.byContradiction fun hk => ne (hM hk) e⟩, ?_, ?_, by omega⟩
        · by_cases hk : kar k.toNat = 0
          · rw [ha hk, sdec_0]; simp
          · exact (hA hk).2.1
        · by_cases hk : knm k.toNat = 0
          · rw [hm hk, sdec_0]; simp
          · exact (hM hk).2.1
theorem wd_eq {k a m x y z w n : Int} (h : OkF k a m x y z w n) {A M X V : List (List UInt8)} (hA : (a ≠ 0 ∧ A = [sdec a]) ∨ (a = 0 ∧ A = [])) (hM : (m ≠ 0 ∧ M = [sdec m]) ∨ (m = 0 ∧ M = []))
    (hX : X = ([x, y, z].take (knum k.toNat)).map itoa) (hV : (w = 1 ∧ V = [wIs, itoa n]) ∨ (w = 2 ∧ V = [wFails, itoa n]) ∨ (w ≠ 1 ∧ w ≠ 2 ∧ V = [])) :
    (stp k a m x y z w n).wd = [kw.getD k.toNat []] ++ A ++ M ++ X ++ V := by
  have e : (stp k a m x y z w n).wd = kw.getD k.toNat [] :: ((if kar k.toNat = 0 then [] else [sdec a]) ++ (if knm k.toNat = 0 then [] else [sdec m]) ++ (([x, y, z].take (knum k.toNat)).map itoa) ++ (if w = 1 then [wIs, itoa n] else if w = 2 then [wFails, itoa n] else [])) := rfl
  rw [e, ← hX]
  have eA : (if kar k.toNat = 0 then [] else [sdec a]) = A := by
    rcases hA with ⟨h1, rfl⟩ | ⟨h1, rfl⟩
    · rw [if_neg (fun hh => h1 (h.ar.1 hh))]
    · rw [if_pos (h.ar.2 h1)]
  have eM : (if knm k.toNat = 0 then [] else [sdec m]) = M := by
    rcases hM with ⟨h1, rfl⟩ | ⟨h1, rfl⟩
    · rw [if_neg (fun hh => h1 (h.nm.1 hh))]
    · rw [if_pos (h.nm.2 h1)]
  have eV : (if w = 1 then [wIs, itoa n] else if w = 2 then [wFails, itoa n] else []) = V := by
    rcases hV with ⟨h1, rfl⟩ | ⟨h1, rfl⟩ | ⟨h1, h2, rfl⟩
    · rw [if_pos h1]
    · rw [if_neg (by omega), if_pos h1]
    · rw [if_neg h1, if_neg h2]
  rw [eA, eM, eV]
  simp
theorem line_of {k a m x y z w n : Int} (h : OkF k a m x y z w n) {A M X V : List (List UInt8)} (hA : (a ≠ 0 ∧ A = [sdec a]) ∨ (a = 0 ∧ A = [])) (hM : (m ≠ 0 ∧ M = [sdec m]) ∨ (m = 0 ∧ M = []))
    (hX : X = ([x, y, z].take (knum k.toNat)).map itoa) (hV : (w = 1 ∧ V = [wIs, itoa n]) ∨ (w = 2 ∧ V = [wFails, itoa n]) ∨ (w ≠ 1 ∧ w ≠ 2 ∧ V = [])) {T : Tb} {c : Int}
    (hT : RowsS T ([kw.getD k.toNat []] ++ A ++ M ++ X ++ V) c) : joinS T c (-17) = senc (stp k a m x y z w n).line := by
  rw [joinS_rows hT, ← wd_eq h hA hM hX hV]; rfl
theorem line_short {k a m x y z w n : Int} (h : OkF k a m x y z w n) (hx : I64 x) (hy : I64 y) (hz : I64 z) (hn : I64 n) : (stp k a m x y z w n).line.length ≤ 200 := by
  have jl : ∀ ws : List (List UInt8), (joinW ws).length ≤ (ws.map (·.length + 1)).sum := by
    intro ws
    induction ws with
    | nil => simp [joinW]
    | cons v l ih =>
      rw [joinW_cons, List.length_append, List.map_cons, List.sum_cons]
      split <;> simp <;> omega
  have h1 := jl (stp k a m x y z w n).wd
  have hk := h.k1
  have hk2 := h.k13
  have ha := h.a16
  have hm := h.m16
  have lx := itoa_len hx
  have ly := itoa_len hy
  have lz := itoa_len hz
  have ln := itoa_len hn
  have lk := kw_len (k := k.toNat) (by omega)
  unfold Sp.line
  refine Nat.le_trans h1 ?_
  have e : (stp k a m x y z w n).wd = kw.getD k.toNat [] :: ((if kar k.toNat = 0 then [] else [sdec a]) ++ (if knm k.toNat = 0 then [] else [sdec m]) ++ (([x, y, z].take (knum k.toNat)).map itoa) ++ (if w = 1 then [wIs, itoa n] else if w = 2 then [wFails, itoa n] else [])) := rfl
  rw [e]
  have hw1 : wIs.length = 2 := rfl
  have hw2 : wFails.length = 5 := rfl
  have hnum : ((([x, y, z].take (knum k.toNat)).map itoa).map (·.length + 1)).sum ≤ 63 := by
    have := knum_le k.toNat
    have hc : knum k.toNat = 0 ∨ knum k.toNat = 1 ∨ knum k.toNat = 2 ∨ knum k.toNat = 3 := by omega
    rcases hc with hc | hc | hc | hc <;> rw [hc] <;> simp <;> omega
  simp only [List.map_cons, List.map_append, List.sum_cons, List.sum_append]
  have hA : ((if kar k.toNat = 0 then ([] : List (List UInt8)) else [sdec a]).map (·.length + 1)).sum ≤ 17 := by split <;> simp <;> omega
  have hM : ((if knm k.toNat = 0 then ([] : List (List UInt8)) else [sdec m]).map (·.length + 1)).sum ≤ 17 := by split <;> simp <;> omega
  have hV : ((if w = 1 then [wIs, itoa n] else if w = 2 then [wFails, itoa n] else ([] : List (List UInt8))).map (·.length + 1)).sum ≤ 27 := by
    split
    · simp [hw1]; omega
    · split
      · simp [hw2]; omega
      · simp
  omega
theorem stp_inj {k a m x y z w n k' a' m' x' y' z' w' n' : Int} (h0 : 0 ≤ k) (h1 : 0 ≤ k') (h : stp k a m x y z w n = stp k' a' m' x' y' z' w' n') : k = k' ∧ a = a' ∧ m = m' ∧ x = x' ∧ y = y' ∧ z = z' ∧ w = w' ∧ n = n' := by
  unfold stp at h
  simp only [Sp.mk.injEq] at h
  obtain ⟨g1, g2, g3, g4, g5, g6, g7, g8⟩ := h
  exact ⟨by omega, sdec_inj g2, sdec_inj g3, g4, g5, g6, g7, g8⟩
theorem lineOf_inj {s : Int} {t t' : Sp} (h : LineOf s t) (h' : LineOf s t') : t = t' := line_inj h.1 h.2.1 h'.1 h'.2.1 (by rw [← h.2.2, ← h'.2.2])
theorem pline_uniq {s k a m x y z w n e k' a' m' x' y' z' w' n' e' : Int} (h : PLineP s k a m x y z w n e) (h' : PLineP s k' a' m' x' y' z' w' n' e') :
    (k = k' ∧ a = a' ∧ m = m' ∧ x = x' ∧ y = y' ∧ z = z' ∧ w = w' ∧ n = n') ∧ e = e' := by
  rcases h with ⟨t, h1, h2, h3, h4⟩ | ⟨h1, rfl, rfl, rfl, rfl, rfl, rfl, rfl, rfl, rfl⟩ <;> rcases h' with ⟨t', g1, g2, g3, g4⟩ | ⟨g1, rfl, rfl, rfl, rfl, rfl, rfl, rfl, rfl, rfl⟩
  · obtain rfl := lineOf_inj h1 g1
    have he : e = e' := by rw [h2, g2]
    subst he
    refine ⟨?_, rfl⟩
    by_cases h0 : e = 0
    · obtain ⟨p1, p2⟩ := h3 h0
      obtain ⟨q1, q2⟩ := g3 h0
      exact stp_inj p1 q1 (p2.trans q2.symm)
    · obtain ⟨rfl, rfl, rfl, rfl, rfl, rfl, rfl, rfl⟩ := h4 h0
      obtain ⟨rfl, rfl, rfl, rfl, rfl, rfl, rfl, rfl⟩ := g4 h0
      exact ⟨rfl, rfl, rfl, rfl, rfl, rfl, rfl, rfl⟩
  · exact absurd h1 (g1 t)
  · exact absurd g1 (h1 t')
  · exact ⟨⟨rfl, rfl, rfl, rfl, rfl, rfl, rfl, rfl⟩, rfl⟩
theorem pline_back {k a m x y z w n s k' a' m' x' y' z' w' n' e' : Int} (hn : I64 n) (hL : LnP k a m x y z w n s 0) (h : PLineP s k' a' m' x' y' z' w' n' e') :
    e' = 0 ∧ k' = k ∧ a' = a ∧ m' = m ∧ x' = x ∧ y' = y ∧ z' = z ∧ w' = w ∧ n' = n := by
  obtain ⟨h0, h1, _⟩ := hL
  have h1 := h1 rfl
  obtain ⟨g1, g2, g3⟩ := stepE_norm hn h0.symm
  have hl : LineOf s (stp k a m x y z w n) := ⟨g1, g2, by rw [h1, sdec_senc]⟩
  rcases h with ⟨t, f1, f2, f3, f4⟩ | ⟨f1, _⟩
  · obtain rfl := lineOf_inj f1 hl
    have e0 : e' = 0 := by
      rw [f2]
      have : ((stp k a m x y z w n).k : Int) = k := g3.symm
      rw [this]
      exact h0.symm
    obtain ⟨p1, p2⟩ := f3 e0
    exact ⟨e0, stp_inj p1 (by omega) p2⟩
  · exact absurd hl (f1 _)
end Go.Tt
namespace Go.Tt
open Go Go.Sx Go.Lib Go.Sf
def RS (f : Tb) : Int → List (List UInt8) → Prop
  | _, [] => True
  | i, w :: l => f i 0 = senc w ∧ RS f (i + 1) l
theorem rs_get {f : Tb} : ∀ {ws : List (List UInt8)} {i : Int}, RS f i ws ↔ ∀ (r : Nat) (w : List UInt8), ws[r]? = some w → f (i + r) 0 = senc w
  | [], i => by simp [RS]
  | v :: l, i => by
    unfold RS
    rw [rs_get]
    constructor
    · rintro ⟨h1, h2⟩ r w hr
      cases r with
      | zero => simp at hr; subst hr; simpa using h1
      | succ r =>
        have := h2 r w (by simpa using hr)
        rw [show i + ((r + 1 : Nat) : Int) = i + 1 + r by omega]; exact this
    · intro h
      refine ⟨by simpa using h 0 v rfl, fun r w hr => ?_⟩
      have := h (r + 1) w (by simpa using hr)
      rw [show i + ((r + 1 : Nat) : Int) = i + 1 + r by omega] at this; exact this
theorem rows_iff {f : Tb} {ws : List (List UInt8)} {n : Int} : RowsS f ws n ↔ n = (ws.length : Nat) ∧ RS f 0 ws := by
  unfold RowsS
  rw [rs_get]
  simp
theorem rows_eq {f : Tb} {ws vs : List (List UInt8)} {n : Int} (h : RowsS f ws n) (h' : RowsS f vs n) : ws = vs := by
  obtain ⟨h1, h2⟩ := h
  obtain ⟨h1', h2'⟩ := h'
  have hl : ws.length = vs.length := by omega
  apply List.ext_getElem hl
  intro i hi hi'
  have e1 := h2 i _ (List.getElem?_eq_getElem hi)
  have e2 := h2' i _ (List.getElem?_eq_getElem hi')
  rw [e1] at e2
  have := congrArg sdec e2
  rw [sdec_senc, sdec_senc] at this
  exact this
def b01 (k : Nat) : Int := if k = 0 then 0 else 1
theorem b01_le (k : Nat) : 0 ≤ b01 k ∧ b01 k ≤ 1 := by unfold b01; split <;> omega
theorem b01_0 {k : Nat} (h : k = 0) : b01 k = 0 := if_pos h
theorem b01_1 {k : Nat} (h : k ≠ 0) : b01 k = 1 := if_neg h
structure WF (f : Tb) (n : Int) (t : Sp) : Prop where
  len : n = 1 + b01 (kar t.k) + b01 (knm t.k) + (knum t.k : Nat) + (if t.w = 1 ∨ t.w = 2 then 2 else 0)
  a : kar t.k ≠ 0 → f 1 0 = senc t.a
  m : knm t.k ≠ 0 → f (1 + b01 (kar t.k)) 0 = senc t.m
  x : 0 < knum t.k → f (1 + b01 (kar t.k) + b01 (knm t.k)) 0 = senc (itoa t.x)
  y : 1 < knum t.k → f (1 + b01 (kar t.k) + b01 (knm t.k) + 1) 0 = senc (itoa t.y)
  z : 2 < knum t.k → f (1 + b01 (kar t.k) + b01 (knm t.k) + 2) 0 = senc (itoa t.z)
  w1 : t.w = 1 → f (1 + b01 (kar t.k) + b01 (knm t.k) + (knum t.k : Nat)) 0 = senc wIs
  w2 : t.w = 2 → f (1 + b01 (kar t.k) + b01 (knm t.k) + (knum t.k : Nat)) 0 = senc wFails
  n : t.w = 1 ∨ t.w = 2 → f (1 + b01 (kar t.k) + b01 (knm t.k) + (knum t.k : Nat) + 1) 0 = senc (itoa t.n)
set_option linter.unusedSimpArgs false in
theorem wf_iff {f : Tb} {n : Int} {t : Sp} (hw : t.w = 0 ∨ t.w = 1 ∨ t.w = 2) : RowsS f t.wd n ↔ f 0 0 = senc (kw.getD t.k []) ∧ WF f n t := by
  have hc := knum_le t.k
  have hc : knum t.k = 0 ∨ knum t.k = 1 ∨ knum t.k = 2 ∨ knum t.k = 3 := by omega
  rw [rows_iff]
  unfold Sp.wd
  constructor
  · rintro ⟨h1, h2⟩
    by_cases ha : kar t.k = 0 <;> by_cases hm : knm t.k = 0 <;> rcases hc with hc | hc | hc | hc <;> rcases hw with hw | hw | hw <;>
      simp [ha, hm, hc, hw, RS, -List.getD_eq_getElem?_getD] at h1 h2 <;> (first | refine ⟨h2.1, ?_⟩ | refine ⟨h2, ?_⟩) <;> constructor <;> simp [ha, hm, hc, hw, b01, h1, h2]
  · rintro ⟨h0, h⟩
    obtain ⟨g1, g2, g3, g4, g5, g6, g7, g8, g9⟩ := h
    by_cases ha : kar t.k = 0 <;> by_cases hm : knm t.k = 0 <;> rcases hc with hc | hc | hc | hc <;> rcases hw with hw | hw | hw <;>
      simp [ha, hm, hc, hw, b01] at g1 g2 g3 g4 g5 g6 g7 g8 g9 <;> simp [ha, hm, hc, hw, RS, *]
structure Rd (s : Int) (f : Tb) (n k : Int) : Prop where
  word : ∃ ws, Bare ws ∧ sdec s = joinW ws ∧ RowsS f ws n
  kind : f 0 0 = senc (kw.getD k.toNat [])
  k1 : 1 ≤ k
  k13 : k ≤ 13
variable {s : Int} {f : Tb} {n k : Int}
theorem Rd.of (h : Rd s f n k) {t : Sp} (hN : t.Norm) (hB : t.NB) (hs : sdec s = t.line) : t.k = k.toNat ∧ WF f n t := by
  obtain ⟨ws, hb, h1, h2⟩ := h.word
  have e : ws = t.wd := joinW_inj hb (wd_bare hN hB) (by rw [← h1, hs]; rfl)
  subst e
  obtain ⟨g1, g2⟩ := (wf_iff hN.w).1 h2
  refine ⟨kw_inj hN.k.2 (by have := h.k13; have := h.k1; omega) ?_, g2⟩
  have := g1.symm.trans h.kind
  have := congrArg sdec this
  rwa [sdec_senc, sdec_senc] at this
theorem rr_no {a m x y z w q : Int} (h : Rd s f n k) (hno : ∀ t : Sp, t.Norm → t.k = k.toNat → WF f n t → False) : RawP s k a m x y z w q 0 := by
  refine .inr ⟨rfl, fun t hN hB hs => ?_⟩
  obtain ⟨h1, h2⟩ := h.of hN hB hs
  exact hno t hN h1 h2
theorem rr_len {a m x y z w q : Int} (h : Rd s f n k) (h1 : ¬ n = 1 + b01 (kar k.toNat) + b01 (knm k.toNat) + (knum k.toNat : Nat)) (h2 : ¬ n = 1 + b01 (kar k.toNat) + b01 (knm k.toNat) + (knum k.toNat : Nat) + 2) :
    RawP s k a m x y z w q 0 := by
  refine rr_no h fun t _ hk hw => ?_
  have := hw.len
  rw [hk] at this
  split at this <;> omega
theorem rr_w {t : Sp} (hk : t.k = k.toNat) (hN : t.Norm) (hw : WF f n t) (h2 : n = 1 + b01 (kar k.toNat) + b01 (knm k.toNat) + (knum k.toNat : Nat) + 2) : t.w = 1 ∨ t.w = 2 := by
  have h1 := hw.len
  rw [hk] at h1
  have := hN.w
  split at h1
  · assumption
  · omega
theorem rr_word {a m x y z w q j : Int} (h : Rd s f n k) (g1 : ¬ f j 0 = 14901) (g2 : ¬ f j 0 = -250025947444) (h2 : n = 1 + b01 (kar k.toNat) + b01 (knm k.toNat) + (knum k.toNat : Nat) + 2) (hj : j = 1 + b01 (kar k.toNat) + b01 (knm k.toNat) + (knum k.toNat : Nat)) : RawP s k a m x y z w q 0 := by
  refine rr_no h fun t hN hk hw => ?_
  subst hj
  have e1 := hw.w1
  have e2 := hw.w2
  rw [hk] at e1 e2
  rcases rr_w hk hN hw h2 with hw | hw
  · exact g1 ((e1 hw).trans w_is.symm)
  · exact g2 ((e2 hw).trans w_fails.symm)
theorem rr_n {a m x y z w q j v e : Int} (h : Rd s f n k) (hp : IntP (f j 0) v e) (he : ¬ e = 0) (h2 : n = 1 + b01 (kar k.toNat) + b01 (knm k.toNat) + (knum k.toNat : Nat) + 2) (hj : j = 1 + b01 (kar k.toNat) + b01 (knm k.toNat) + (knum k.toNat : Nat) + 1) : RawP s k a m x y z w q 0 := by
  refine rr_no h fun t hN hk hw => ?_
  subst hj
  have e1 := hw.n
  rw [hk] at e1
  have e1 := e1 (rr_w hk hN hw h2)
  rcases hp with ⟨h, _⟩ | ⟨_, h⟩
  · exact he h
  · exact h t.n hN.n.1 (by rw [e1, sdec_senc])
theorem rr_num {a m x y z w q j v e : Int} (h : Rd s f n k) (hp : IntP (f j 0) v e) (he : ¬ e = 0) (hi : 1 + b01 (kar k.toNat) + b01 (knm k.toNat) ≤ j) (hi2 : j < 1 + b01 (kar k.toNat) + b01 (knm k.toNat) + (knum k.toNat : Nat)) : RawP s k a m x y z w q 0 := by
  obtain ⟨i, hj⟩ : ∃ i, j = 1 + b01 (kar k.toNat) + b01 (knm k.toNat) + i := ⟨j - (1 + b01 (kar k.toNat) + b01 (knm k.toNat)), by omega⟩
  have hi3 := knum_le k.toNat
  refine rr_no h fun t hN hk hw => ?_
  have e1 := hw.x
  have e2 := hw.y
  have e3 := hw.z
  rw [hk] at e1 e2 e3
  rcases hp with ⟨h, _⟩ | ⟨_, h⟩
  · exact he h
  · have hc : i = 0 ∨ i = 1 ∨ i = 2 := by omega
    rcases hc with rfl | rfl | rfl
    · rw [Int.add_zero] at hj; subst hj
      exact h t.x hN.x.1 (by rw [e1 (by omega), sdec_senc])
    · subst hj
      exact h t.y hN.y.1 (by rw [e2 (by omega), sdec_senc])
    · subst hj
      exact h t.z hN.z.1 (by rw [e3 (by omega), sdec_senc])
theorem bare_at {ws : List (List UInt8)} (hb : Bare ws) (h : RowsS f ws n) {j : Int} (h0 : 0 ≤ j) (h1 : j < n) : BareW (sdec (f j 0)) := by
  obtain ⟨rfl, h2⟩ := h
  have hj : j.toNat < ws.length := by omega
  have := h2 j.toNat _ (List.getElem?_eq_getElem hj)
  rw [show ((j.toNat : Nat) : Int) = j by omega] at this
  rw [this, sdec_senc]
  exact hb _ (List.getElem_mem hj)
theorem rr_yes {a m x y z w q lo : Int} (h : Rd s f n k) (hl : n = 1 + b01 (kar k.toNat) + b01 (knm k.toNat) + (knum k.toNat : Nat) + (if w = 1 ∨ w = 2 then 2 else 0))
    (hw : w = 0 ∧ q = 0 ∨ (w = 1 ∨ w = 2) ∧ IntOk (f (1 + b01 (kar k.toNat) + b01 (knm k.toNat) + (knum k.toNat : Nat) + 1) 0) q)
    (hw1 : w = 1 → f (1 + b01 (kar k.toNat) + b01 (knm k.toNat) + (knum k.toNat : Nat)) 0 = 14901) (hw2 : w = 2 → f (1 + b01 (kar k.toNat) + b01 (knm k.toNat) + (knum k.toNat : Nat)) 0 = -250025947444)
    (ha0 : kar k.toNat = 0 → a = 0) (ha : kar k.toNat ≠ 0 → a = f 1 0) (hm0 : knm k.toNat = 0 → m = 0) (hm : knm k.toNat ≠ 0 → m = f (1 + b01 (kar k.toNat)) 0)
    (hlo : lo = 1 + b01 (kar k.toNat) + b01 (knm k.toNat)) (hX : NumsI f lo (knum k.toNat : Nat) x y z) : RawP s k a m x y z w q 1 := by
  have hk : (k.toNat : Int) = k := by have := h.k1; omega
  obtain ⟨ws, hb, h1, h2⟩ := h.word
  obtain ⟨x1, x2, x3⟩ := hX
  subst hlo
  have hI0 : I64 0 := by unfold I64; omega
  have hx : I64 x ∧ (knum k.toNat < 1 → x = 0) := by
    split at x1
    · exact ⟨x1.1, fun _ => by omega⟩
    · subst x1; exact ⟨hI0, fun _ => rfl⟩
  have hy : I64 y ∧ (knum k.toNat < 2 → y = 0) := by
    split at x2
    · exact ⟨x2.1, fun _ => by omega⟩
    · subst x2; exact ⟨hI0, fun _ => rfl⟩
  have hz : I64 z ∧ (knum k.toNat < 3 → z = 0) := by
    split at x3
    · exact ⟨x3.1, fun _ => by omega⟩
    · subst x3; exact ⟨hI0, fun _ => rfl⟩
  have dn : ∀ {g : Int} {b : List UInt8}, sdec g = b → g = senc b := fun h => by rw [← h, senc_sdec]
  have hW : WF f n (stp k a m x y z w q) := by
    constructor
    · exact hl
    · intro h; show f 1 0 = senc (sdec a); rw [senc_sdec, ha h]
    · intro h; show f _ 0 = senc (sdec m); rw [senc_sdec, hm h]; rfl
    · intro h
      have h : 0 < knum k.toNat := h
      rw [if_pos (by omega)] at x1
      exact dn x1.2
    · intro h
      have h : 1 < knum k.toNat := h
      rw [if_pos (by omega)] at x2
      exact dn x2.2
    · intro h
      have h : 2 < knum k.toNat := h
      rw [if_pos (by omega)] at x3
      exact dn x3.2
    · exact fun h => (hw1 h).trans w_is
    · exact fun h => (hw2 h).trans w_fails
    · intro h
      have h : w = 1 ∨ w = 2 := h
      rcases hw with hw | hw
      · omega
      · exact dn hw.2.2
  have hN : (stp k a m x y z w q).Norm := by
    constructor
    · have := h.k1; have := h.k13
      show 1 ≤ k.toNat ∧ k.toNat ≤ 13; omega
    · intro h; show sdec a = []; rw [ha0 h, sdec_0]
    · intro h; show sdec m = []; rw [hm0 h, sdec_0]
    · exact hx
    · exact hy
    · exact hz
    · show w = 0 ∨ w = 1 ∨ w = 2; omega
    · rcases hw with hw | hw
      · rw [show (stp k a m x y z w q).n = q from rfl, hw.2]; exact ⟨hI0, fun _ => rfl⟩
      · exact ⟨hw.2.1, fun h => by have h : w = 0 := h; omega⟩
  have hwd : ws = (stp k a m x y z w q).wd := rows_eq h2 ((wf_iff hN.w).2 ⟨h.kind, hW⟩)
  have B1 := b01_le (kar k.toNat)
  have B2 := b01_le (knm k.toNat)
  refine .inl ⟨by decide, by have := h.k1; omega, hN, ⟨fun h => ?_, fun h => ?_⟩, by rw [h1, hwd]; rfl⟩
  · show BareW (sdec a)
    have h : kar k.toNat ≠ 0 := h
    rw [ha h]
    have := b01_1 h
    exact bare_at hb h2 (by omega) (by rw [hl]; split <;> omega)
  · show BareW (sdec m)
    have h : knm k.toNat ≠ 0 := h
    rw [hm h]
    have := b01_1 h
    exact bare_at hb h2 (by omega) (by rw [hl]; split <;> omega)
theorem nums_0 {lo : Int} : NumsI f lo 0 0 0 0 := ⟨by rw [if_neg (by omega)], by rw [if_neg (by omega)], by rw [if_neg (by omega)]⟩
theorem intOk {v e : Int} {g : Int} (h : IntP g v e) (he : e = 0) : IntOk g v := by
  rcases h with ⟨_, h⟩ | ⟨h, _⟩
  · exact h
  · exact absurd he h
theorem nums_1 {lo i j x y z v e : Int} (h : NumsI f lo i x y z) (hp : IntP (f j 0) v e) (he : e = 0) (hi : i = 0) (hj : j = lo + i) : NumsI f lo (i + 1) v y z := by
  obtain ⟨_, h2, h3⟩ := h
  subst hi
  rw [Int.add_zero] at hj; subst hj
  rw [if_neg (by omega)] at h2 h3
  exact ⟨by rw [if_pos (by omega)]; exact intOk hp he, by rw [if_neg (by omega)]; exact h2, by rw [if_neg (by omega)]; exact h3⟩
theorem nums_2 {lo i j x y z v e : Int} (h : NumsI f lo i x y z) (hp : IntP (f j 0) v e) (he : e = 0) (hi : i = 1) (hj : j = lo + i) : NumsI f lo (i + 1) x v z := by
  obtain ⟨h1, _, h3⟩ := h
  subst hi; subst hj
  rw [if_pos (by omega)] at h1
  rw [if_neg (by omega)] at h3
  exact ⟨by rw [if_pos (by omega)]; exact h1, by rw [if_pos (by omega)]; exact intOk hp he, by rw [if_neg (by omega)]; exact h3⟩
theorem nums_3 {lo i j x y z v e : Int} (h : NumsI f lo i x y z) (hp : IntP (f j 0) v e) (he : e = 0) (hi : i = 2) (hj : j = lo + i) : NumsI f lo (i + 1) x y v := by
  obtain ⟨h1, h2, _⟩ := h
  subst hi; subst hj
  rw [if_pos (by omega)] at h1 h2
  exact ⟨by rw [if_pos (by omega)]; exact h1, by rw [if_pos (by omega)]; exact h2, by rw [if_pos (by omega)]; exact intOk hp he⟩
def NmW (f : Tb) (k a m : Int) : Prop := (kar k.toNat = 0 → a = 0) ∧ (kar k.toNat ≠ 0 → a = f 1 0) ∧ (knm k.toNat = 0 → m = 0) ∧ (knm k.toNat ≠ 0 → m = f (1 + b01 (kar k.toNat)) 0)
section
variable {a m x y z q lo i jn jw e : Int}
theorem rr_yes0 (h : Rd s f n k) (hN : NmW f k a m) (hX : NumsI f lo i x y z) (hi : i = (knum k.toNat : Nat)) (hlo : lo = 1 + b01 (kar k.toNat) + b01 (knm k.toNat)) (hl : n = 1 + b01 (kar k.toNat) + b01 (knm k.toNat) + (knum k.toNat : Nat)) :
    RawP s k a m x y z 0 0 1 := by
  subst hi
  obtain ⟨h1, h2, h3, h4⟩ := hN
  exact rr_yes h (by rw [if_neg (by decide)]; omega) (.inl ⟨rfl, rfl⟩) (fun h => absurd h (by decide)) (fun h => absurd h (by decide)) h1 h2 h3 h4 hlo hX
theorem rr_yes1 (h : Rd s f n k) (hN : NmW f k a m) (hX : NumsI f lo i x y z) (hp : IntP (f jn 0) q e) (he : e = 0) (hw : f jw 0 = 14901) (hi : i = (knum k.toNat : Nat)) (hlo : lo = 1 + b01 (kar k.toNat) + b01 (knm k.toNat))
    (hl : n = 1 + b01 (kar k.toNat) + b01 (knm k.toNat) + (knum k.toNat : Nat) + 2) (hjn : jn = 1 + b01 (kar k.toNat) + b01 (knm k.toNat) + (knum k.toNat : Nat) + 1) (hjw : jw = 1 + b01 (kar k.toNat) + b01 (knm k.toNat) + (knum k.toNat : Nat)) :
    RawP s k a m x y z 1 q 1 := by
  subst hi; subst hjn; subst hjw
  obtain ⟨h1, h2, h3, h4⟩ := hN
  exact rr_yes h (by rw [if_pos (by decide)]; omega) (.inr ⟨by decide, intOk hp he⟩) (fun _ => hw) (fun h => absurd h (by decide)) h1 h2 h3 h4 hlo hX
theorem rr_yes2 (h : Rd s f n k) (hN : NmW f k a m) (hX : NumsI f lo i x y z) (hp : IntP (f jn 0) q e) (he : e = 0) (hw : f jw 0 = -250025947444) (hi : i = (knum k.toNat : Nat)) (hlo : lo = 1 + b01 (kar k.toNat) + b01 (knm k.toNat))
    (hl : n = 1 + b01 (kar k.toNat) + b01 (knm k.toNat) + (knum k.toNat : Nat) + 2) (hjn : jn = 1 + b01 (kar k.toNat) + b01 (knm k.toNat) + (knum k.toNat : Nat) + 1) (hjw : jw = 1 + b01 (kar k.toNat) + b01 (knm k.toNat) + (knum k.toNat : Nat)) :
    RawP s k a m x y z 2 q 1 := by
  subst hi; subst hjn; subst hjw
  obtain ⟨h1, h2, h3, h4⟩ := hN
  exact rr_yes h (by rw [if_pos (by decide)]; omega) (.inr ⟨by decide, intOk hp he⟩) (fun h => absurd h (by decide)) (fun _ => hw) h1 h2 h3 h4 hlo hX
theorem nm11 (h1 : kar k.toNat ≠ 0) (h2 : knm k.toNat ≠ 0) : NmW f k (f 1 0) (f 2 0) := ⟨fun h => absurd h h1, fun _ => rfl, fun h => absurd h h2, fun _ => by rw [b01_1 h1]; rfl⟩
theorem nm10 (h1 : kar k.toNat ≠ 0) (h2 : knm k.toNat = 0) : NmW f k (f 1 0) 0 := ⟨fun h => absurd h h1, fun _ => rfl, fun _ => rfl, fun h => absurd h2 h⟩
theorem nm01 (h1 : kar k.toNat = 0) (h2 : knm k.toNat ≠ 0) : NmW f k 0 (f 1 0) := ⟨fun _ => rfl, fun h => absurd h1 h, fun h => absurd h h2, fun _ => by rw [b01_0 h1]; rfl⟩
theorem nm00 (h1 : kar k.toNat = 0) (h2 : knm k.toNat = 0) : NmW f k 0 0 := ⟨fun _ => rfl, fun h => absurd h1 h, fun _ => rfl, fun h => absurd h2 h⟩
end
theorem wd_ne (t : Sp) : t.wd ≠ [] := by unfold Sp.wd; simp
theorem rr_empty {a m x y z w q : Int} {ws : List (List UInt8)} (hb : Bare ws) (hs : sdec s = joinW ws) (hr : RowsS f ws 0) : RawP s k a m x y z w q 0 := by
  refine .inr ⟨rfl, fun t hN hB ht => ?_⟩
  have e : ws = t.wd := joinW_inj hb (wd_bare hN hB) (by rw [← hs, ht]; rfl)
  have := hr.1
  have h0 : ws = [] := List.eq_nil_of_length_eq_zero (by omega)
  exact wd_ne t (e ▸ h0)
theorem kw_0 : KwI f 1 0 := .inl ⟨rfl, fun j h1 h2 => by omega⟩
theorem kw_hit {q : Int} (h1 : 1 ≤ q) (hf : f 0 0 = senc (kw.getD q.toNat [])) : KwI f (q + 1) q := .inr ⟨h1, by omega, hf⟩
theorem kw_miss {q k : Int} (h : KwI f q k) (_ : 1 ≤ q) (hf : ¬ senc (kw.getD q.toNat []) = f 0 0) : KwI f (q + 1) k := by
  rcases h with ⟨h1, h2⟩ | ⟨h1, h2, h3⟩
  · refine .inl ⟨h1, fun j hj1 hj2 => ?_⟩
    by_cases e : (j : Int) = q
    · intro h
      refine hf ?_
      rw [← e, Int.toNat_natCast]; exact h.symm
    · exact h2 j hj1 (by omega)
  · exact .inr ⟨h1, by omega, h3⟩
theorem rr_kind {ws : List (List UInt8)} {a m x y z w q : Int} (hb : Bare ws) (hs : sdec s = joinW ws) (hr : RowsS f ws n) (h : KwI f 14 0) : RawP s 0 a m x y z w q 0 := by
  refine .inr ⟨rfl, fun t hN hB ht => ?_⟩
  have e : ws = t.wd := joinW_inj hb (wd_bare hN hB) (by rw [← hs, ht]; rfl)
  subst e
  obtain ⟨g1, _⟩ := (wf_iff hN.w).1 hr
  have hk := hN.k
  rcases h with ⟨_, h⟩ | ⟨h, _⟩
  · exact h t.k (by omega) (by omega) g1
  · omega
theorem rr_none {k a m x y z w q : Int} (h : WdsP s f n 0) : RawP s k a m x y z w q 0 :=
  .inr ⟨rfl, fun t hN hB ht => h.2 rfl t.wd (wd_bare hN hB) (by have := wd_len t; omega) (by have := line_len hN hB; unfold slen; rw [ht]; omega) ht⟩
end Go.Tt
